/-
  What nodeKnown.proved hangs on, part 2 of 6: EvG, EvH, EvI, ClSu, EvJ, EvK, EvL, EvM, EvMb, EvMc, EvX, EvY, EvZ, EvP.
-/
import Derived.Test.YtnkiahopaaibhaaGreatNk1
import Derived.Deep.AppendSrc
import Derived.MapKept
import Derived.WideKeyRuns
import Derived.Defers
import Derived.Scope
set_option linter.unusedVariables false
set_option linter.unusedSimpArgs false
namespace Go.Proofs.YtnkiahopaaibhaaGreat
open Go Go.RowKit
namespace Sl
namespace Ab
noncomputable section
def uE :AV→Option (List AV)
 | .ag l=>some l
 | .tu _=>none
 | v=>some [v]
theorem wY {V:Val} {a:AV} {l:List AV} {v:Value} (h:uE a=some l) (hr:R V a v):RL V l v.cells.toList∧yW v.cells.toList:=by
 have e:l=a.cellsA∧∀ q,a≠.tu q:=by cases a<;>simp only [uE,Option.some.injEq,reduceCtorEq] at h<;>first|exact ⟨h.symm,fun q hq=>by cases hq⟩
 rw [e.1]; exact R.cells hr e.2
theorem RL.splice {V:Val} {n:Nat} {l cs:List AV} {us ws:List Value} (h:RL V l us) (h':RL V cs ws) (hb:n+l.length≤cs.length):RL V (spliceA n l cs) (kX n us ws):=by
 have e1:=h.length
 have e2:=h'.length
 refine RL.of_get (by rw [vN,spliceA_length,e2]) fun j a ha=>?_
 rw [splice_get us ws n j (by omega)]
 rcases spliceA_get n l cs j a ha with ⟨h1,h2⟩|⟨h1,h2⟩
 ·rw [if_pos (by omega)]; exact h.get h2
 ·rw [if_neg (by omega)]; exact h'.get h2
def fillA (pl:Nat→Option (Nat × Nat)):List AV→List (Nat × AV)→Option (List AV)
 | cells,[]=>some cells
 | cells,(i,v)::rest=>match pl i with
  | none=>none
  | some (off,size)=>match uE v with
   | none=>none
   | some cs=>bif and (Nat.beq cs.length size) (Nat.ble (Nat.add off cs.length) cells.length) then fillA pl (spliceA off cs cells) rest else none
def pairA :List (Nat × Operand)→List AV→List (Nat × AV)
 | (i,_)::l,v::vs=>(i,v)::pairA l vs
 | _,_=>[]
theorem fillA_ok {V:Val} {pl:Nat→Option (Nat × Nat)}:∀ {parts:List (Nat × Operand)} {asx:List AV} {us:List Value} {cells out:List AV} {cs:List Value},RL V asx us→asx.length=parts.length→RL V cells cs→yW cs→fillA pl cells (pairA parts asx)=some out →
  ∃ os,fillL pl cs ((parts.map (·.1)).zip us)=some os∧RL V out os∧yW os
 | [],asx,us,cells,out,cs,h,hl,hc,h1c,hf=>by
  simp only [pairA,fillA,Option.some.injEq] at hf; subst hf
  exact ⟨cs,rfl,hc,h1c⟩
 | (i,x)::parts,[],us,cells,out,cs,h,hl,hc,h1c,hf=>by simp at hl
 | (i,x)::parts,a::asx,us,cells,out,cs,h,hl,hc,h1c,hf=>by
  obtain ⟨v,us',rfl,h1,h2⟩:=RL.cons.1 h
  simp only [pairA,fillA] at hf
  split at hf
  ·cases hf
  ·rename_i off size hp
   split at hf
   ·cases hf
   ·rename_i l hl'
    obtain ⟨hcell,hone⟩:=wY hl' h1
    simp only [cond_eq_ite,Bool.and_eq_true,Nat.beq_eq,Nat.ble_eq] at hf
    split at hf
    ·rename_i hb
     obtain ⟨hb1,hb2⟩:=hb
     have hb2:off+l.length≤cells.length:=hb2
     have e1:v.cells.size=l.length:=by rw [← Array.length_toList]; exact hcell.length
     have e2:=hc.length
     obtain ⟨os,h3,h4,h5⟩:=fillA_ok h2 (by simpa using hl) (RL.splice hcell hc hb2) (yW.splice (by rw [e2,hcell.length]; exact hb2) hone h1c) hf
     refine ⟨os,?_,h4,h5⟩
     simp only [List.map_cons,List.zip_cons_cons,fillL,hp]
     rw [if_pos (by rw [e1,e2,hb1]; simp; rw [← hb1]; exact hb2)]
     exact h3
    ·cases hf
def plcA (TT:Nat→Option TI):List Field→Option (List (Nat × Nat))
 | []=>some []
 | f::fs=>match vF TT f.type with
  | none=>none
  | some m=>match plcA TT fs with
   | none=>none
   | some l=>some ((f.offset,m)::l)
theorem plcA_ok {P:Program} {TT:Nat→Option TI} (hT:TOk P TT) {t:TypeId} {fs:Array Field} (hu:P.underlying t=some (.struct fs)) {pl:List (Nat × Nat)} (h:plcA TT fs.toList=some pl):Plc P t pl:=by
 refine ⟨fs,hu,fun w=>?_⟩
 have key:∀ (l:List Field) (pl:List (Nat × Nat)),plcA TT l=some pl→(l.mapM fun f=>(do pure (f.offset,← sizeOf f.type):Sem (Nat × Nat))).run P w=.ok pl w:=by
  intro l
  induction l with
  | nil=>intro pl h; simp only [plcA,Option.some.injEq] at h; subst h; simp
  | cons f l ih =>
   intro pl h
   simp only [plcA] at h
   split at h
   ·cases h
   ·rename_i m hm
    split at h
    ·cases h
    ·rename_i l' hl
     simp only [Option.some.injEq] at h; subst h
     obtain ⟨by',z,⟨info,i1,i2,i3,i4⟩,_⟩:=uP hT hm
     simp only [List.mapM_cons,sizeOf,typeInfo,Sem.run_bind,run_program,i1,Sem.run_pure,Result.andThen_ok,i2]
     have:=ih l' hl
     simp only [sizeOf,typeInfo] at this
     rw [this]; rfl
 have e:fs=fs.toList.toArray:=by simp
 rw [e,List.mapM_toArray]
 have:=key fs.toList pl h
 rw [Sem.run_map,this]; rfl
def repA (l:List AV):Nat→List AV
 | 0=>[]
 | n+1=>l++repA l n
theorem repA_ok {V:Val} {l:List AV} {us:List Value} (h:RL V l us):∀ n,RL V (repA l n) (List.replicate n us).flatten
 | 0=>RL.nil.2 O
 | n+1=>by rw [List.replicate_succ,List.flatten_cons]; exact RL.append h (repA_ok h n)
theorem repA_length {l:List AV}:∀ n,(repA l n).length=n*l.length
 | 0=>by simp [repA]
 | n+1=>by simp [repA,repA_length n,Nat.succ_mul]; omega
section
variable {P:Program} {g:Env} {V:Val}
theorem pv_indexArr {t e nn:TypeId} (hu:P.underlying t=some (.array nn e)) {sz by':Nat} {z:Value} (hi:Inf P e sz by' z) {x ix:Operand} {b off:Nat} {k:IntKind} {i:Nat}
  (hx:ev g x=some (.pointer (some ⟨b,off,none⟩))) (hix:ev g ix=some (.int k (i:Int))) (h1:i<nn):PV P g (.indexAddr t x ix) (.pointer (some ⟨b,off+i*sz,none⟩)):=by
 intro o a w n ho ha
 obtain ⟨j,h3,h4,_⟩:=hi.out
 unfold execOp
 simp only [ho,ha.ev hx,ha.ev hix]
 have hadd:(⟨b,off,none⟩:Addr).add (i*j.size)=⟨b,off+i*sz,none⟩:=by subst h4; unfold Addr.add; split<;>simp_all
 have hlt:(0:Int)≤(i:Int)∧(i:Int)<(nn:Int):=by omega
 simp only [Instr.indexAt,asIntOf,Instr.sureAddr,pure_bind,Sem.run_bind,run_underlying hu,Result.andThen_ok,Sem.run_pure,hlt,and_self,if_true,sizeOf,typeInfo,run_program,h3,Int.toNat_natCast,hadd]
theorem pv_indexStr {t:TypeId} (hu:P.underlying t=some .string) {x ix:Operand} {len m:Nat} {k:IntKind} {i:Nat}
  (hx:ev g x=some (.string ⟨(bytesOf len m).toArray⟩)) (hix:ev g ix=some (.int k (i:Int))) (h1:i<len):PV P g (.index t x ix) (.int .u8 ((m / 256 ^ i % 256:Nat):Int)):=by
 intro o a w n ho ha
 unfold execOp
 have hb:(ByteArray.mk (bytesOf len m).toArray)[i]?=some (UInt8.ofNat (m / 256 ^ i)):=by
  have h2:i<(ByteArray.mk (bytesOf len m).toArray).size:=by rw [size_str]; exact h1
  rw [getElem?_pos (ByteArray.mk (bytesOf len m).toArray) i h2]
  congr 1
  have:=vC (n:=m) h1
  rw [List.getElem?_eq_getElem (by rw [kZ]; exact h1)] at this
  exact Option.some.inj this
 simp only [ho,ha.ev hx,ha.ev hix,Instr.index,asIntOf,pure_bind,Sem.run_bind,run_underlying hu,Result.andThen_ok,Int.toNat_natCast,Int.natCast_nonneg,if_true,hb,Sem.run_pure,byte_low]
theorem pv_lenStr {t:TypeId} (hu:P.underlying t=some .string) {x:Operand} {len m:Nat} (hx:ev g x=some (.string ⟨(bytesOf len m).toArray⟩)) :
  PV P g (.call { callee:=.builtin .len,args:=#[x],argTypes:=#[t] }) (.int .i64 len):=by
 intro o a w n ho ha
 unfold execOp
 simp [ho,resolve,invoke,builtin,ha.ev hx,Builtin.len_,run_underlying hu,goInt,size_str]
theorem pv_capS {t e:TypeId} (hu:P.underlying t=some (.slice e)) {x:Operand} {ad:Option Addr} {len cap:Nat} (hx:ev g x=some (.slice ad len cap)) :
  PV P g (.call { callee:=.builtin .cap,args:=#[x],argTypes:=#[t] }) (.int .i64 cap):=by
 intro o a w n ho ha
 unfold execOp
 simp [ho,resolve,invoke,builtin,ha.ev hx,Builtin.cap_,run_underlying hu,goInt]
theorem pv_part {t:TypeId} {fs:Array Field} (hu:P.underlying t=some (.struct fs)) {x:Operand} {k:Nat} {f:Field} (hf:fs[k]?=some f) {vs:List Value} (hx:ev g x=some (.agg vs.toArray)) {d:TypeDesc} (hd:P.underlying f.type=some d) {r:Value}
  (hr:(wW d=true∧vs[f.offset]?=some r)∨(wW d=false∧∃ sz by' z,Inf P f.type sz by' z∧f.offset+sz≤vs.length∧r=.agg ((vs.drop f.offset).take sz).toArray)):PV P g (.field t x k) r:=by
 intro o a w n ho ha
 unfold execOp
 simp only [ho,ha.ev hx,Instr.field,Sem.run_bind,run_underlying hu,Result.andThen_ok,hf,asAgg,pure_bind]
 have h2:(part f.type vs.toArray f.offset).run P w=.ok r w:=by
  rcases hr with ⟨h1,h2⟩|⟨h1,sz,by',z,⟨i,i1,i2,_⟩,h3,rfl⟩
  ·have:(isAgg f.type).run P w=.ok false w:=by
    unfold isAgg; simp only [Sem.run_bind,run_underlying hd,Result.andThen_ok]; cases d<;>simp_all [wW]
   unfold part
   simp [this,h2]
  ·have:(isAgg f.type).run P w=.ok true w:=by
    unfold isAgg; simp only [Sem.run_bind,run_underlying hd,Result.andThen_ok]; cases d<;>simp_all [wW]
   unfold part
   simp [this,sizeOf,typeInfo,i1,i2]
   first
    | (rw [List.extract_eq_take_drop]; congr 1; omega)
    | (intro h4; omega)
    | (refine ⟨?_,?_⟩<;>first|omega|rfl)
    | skip
 rw [h2]; rfl
end
end
end Ab
namespace Ab
noncomputable section
def lenV (n:Nat):Option AV:=bif Nat.blt n 9223372036854775808 then some (.i .i64 n) else none
def lenA :AV→Option AV
 | .sl _ _ len _ _=>lenV len
 | .es=>some (.i .i64 0)
 | .ns=>some (.i .i64 0)
 | .s len _=>lenV len
 | _=>none
def capA :AV→Option AV
 | .sl _ _ _ cap true=>lenV cap
 | .ns=>some (.i .i64 0)
 | _=>none
def lessI (k:IntKind) (u w:Nat):Bool:=Nat.blt (keyI k u) (keyI k w)
def isAggD :TypeDesc→Bool
 | .struct _|.array _ _=>true
 | _=>false
section
variable (TT:Nat→Option TI) (E:En)
def binA (op:BinOp) (t:TypeId) (a b:AV):Option AV:=match a with
 | .i k u=>match b with
  | .i k' w=>match op with
   | .shl=>shA .shl k u k' w
   | .shr=>shA .shr k u k' w
   | op=>bif decide (k=k') then iopA op k u w else none
  | _=>none
 | .s l n=>match b with
  | .s l' n'=>match op with
   | .add=>bif Nat.blt (Nat.add l l') 9223372036854775808 then some (.s (Nat.add l l') (Nat.add n (Nat.mul n' (Nat.pow 256 l)))) else none
   | .eql=>some (.b (and (Nat.beq l l') (Nat.beq n n')))
   | .neq=>some (.b (not (and (Nat.beq l l') (Nat.beq n n'))))
   | _=>none
  | _=>none
 | .ag xs=>match b with
  | .ag ys=>match jF TT t with
   | some (.struct fs)=>bif flatT TT t then (match fieldsEqA TT xs ys fs.toList with
    | none=>none
    | some r=>match op with
     | .eql=>some (.b r)
     | .neq=>some (.b (not r))
     | _=>none) else none
   | some (.array n e)=>bif flatT TT t then (match vF TT e with
    | none=>none
    | some sz=>match itemsEqA TT e sz xs ys (List.range n) with
     | none=>none
     | some r=>match op with
      | .eql=>some (.b r)
      | _=>none) else none
   | _=>none
  | _=>none
 | a=>match jF TT t with
  | none=>none
  | some d=>match eqP d a b with
   | none=>none
   | some r=>match op with
    | .eql=>some (.b r)
    | .neq=>some (.b (not r))
    | _=>none
def doP :Op→Option AV
 | .move x=>yV E x
 | .assign x=>yV E x
 | .pick c a b=>match yV E c with
  | some (.b true)=>yV E a
  | some (.b false)=>yV E b
  | _=>none
 | .nilCheck x=>match yV E x with
  | some (.p id off)=>some (.p id off)
  | some (.f k a c)=>some (.f k a c)
  | _=>none
 | .binOp op t x y _=>match yV E x with
  | none=>none
  | some a=>match yV E y with
   | none=>none
   | some b=>binA TT op t a b
 | .unOp op _ x=>match yV E x with
  | some (.b q)=>match op with
   | .not=>some (.b (not q))
   | _=>none
  | some (.i k u)=>match op with
   | .neg=>some (.i k (negI k u))
   | .xor=>some (.i k (Nat.sub (Nat.pred (pwK k)) u))
   | _=>none
  | _=>none
 | .convert src dst x=>match yV E x with
  | some (.i k u)=>match jF TT src with
   | none=>none
   | some _=>match jF TT dst with
    | some (.int d)=>some (.i d (cvI d k u))
    | _=>none
  | _=>none
 | .makeFunc (.func k) first cap=>match opndL E first.toList with
  | none=>none
  | some a=>match opndL E cap.toList with
   | none=>none
   | some c=>some (.f k a c)
 | .fieldAddr t x k=>match yV E x with
  | some (.p id off)=>match jF TT t with
   | some (.struct fs)=>match fs[k]? with
    | none=>none
    | some f=>match vF TT f.type with
     | none=>none
     | some m=>bif Nat.beq m 0 then none else some (.p id (Nat.add off f.offset))
   | _=>none
  | _=>none
 | .field t x k=>match yV E x with
  | some (.ag l)=>match jF TT t with
   | some (.struct fs)=>match fs[k]? with
    | none=>none
    | some f=>match jF TT f.type with
     | none=>none
     | some d=>bif isAggD d then (match vF TT f.type with
       | none=>none
       | some m=>bif Nat.ble (Nat.add f.offset m) l.length then some (.ag ((l.drop f.offset).take m)) else none)
      else l[f.offset]?
   | _=>none
  | _=>none
 | .indexAddr t x ix=>match yV E ix with
  | none=>none
  | some i=>match natA i with
   | none=>none
   | some n=>match yV E x with
    | some (.sl id off len _ _)=>match jF TT t with
     | some (.slice e)=>match vF TT e with
      | none=>none
      | some m=>bif Nat.blt n len then some (.p id (Nat.add off (Nat.mul n m))) else none
     | _=>none
    | some (.p id off)=>match jF TT t with
     | some (.array len e)=>match vF TT e with
      | none=>none
      | some m=>bif Nat.blt n len then some (.p id (Nat.add off (Nat.mul n m))) else none
     | _=>none
    | _=>none
 | .index t x ix=>match yV E ix with
  | none=>none
  | some i=>match natA i with
   | none=>none
   | some n=>match yV E x with
    | some (.s len m)=>match jF TT t with
     | some .string=>bif Nat.blt n len then some (.i .u8 (Nat.mod (Nat.div m (Nat.pow 256 n)) 256)) else none
     | _=>none
    | _=>none
 | .extract x k=>match yV E x with
  | some (.tu l)=>l[k]?
  | _=>none
 | .build t parts=>match opndL E (parts.toList.map (·.2)) with
  | none=>none
  | some vs=>match zerT TT t with
   | none=>none
   | some z=>match uE z with
    | none=>none
    | some zs=>match jF TT t with
     | some (.struct fs)=>match plcA TT fs.toList with
      | none=>none
      | some pl=>match fillA (fun i=>pl[i]?) zs (pairA parts.toList vs) with
       | none=>none
       | some l=>some (.ag l)
     | some (.array _ e)=>match vF TT e with
      | none=>none
      | some m=>match fillA (fun i=>some (i*m,m)) zs (pairA parts.toList vs) with
       | none=>none
       | some l=>some (.ag l)
     | _=>none
 | .sliceToArrayPointer t x=>match jF TT t with
  | some (.array n _)=>(match yV E x with
   | some (.sl id off len _ _)=>bif Nat.ble n len then some (.p id off) else none
   | _=>none)
  | _=>none
 | .slice t x lo hi mx=>match yV E x with
  | none=>none
  | some a=>match bndA E 0 lo with
   | none=>none
   | some l=>match jF TT t with
    | some (.slice e)=>match vF TT e with
     | none=>none
     | some sz=>match mx with
      | none=>(match hi with
       | none=>(match a with
        | .sl _ _ len _ _=>cutA sz l len none a
        | .ns=>cutA sz l 0 none a
        | .es=>cutA sz l 0 none a
        | _=>none)
       | some y=>match bndA E 0 (some y) with
        | none=>none
        | some h=>cutA sz l h none a)
      | some y=>match hi with
       | none=>none
       | some yh=>match bndA E 0 (some yh) with
        | none=>none
        | some h=>match bndA E 0 (some y) with
         | none=>none
         | some m=>cutA sz l h (some m) a
    | some (.pointer arr)=>match jF TT arr with
     | some (.array nn e)=>match vF TT e with
      | none=>none
      | some sz=>match a with
       | .p id off=>match mx with
        | some _=>none
        | none=>match bndA E nn hi with
         | none=>none
         | some h=>bif and (Nat.ble l h) (Nat.ble h nn) then some (.sl id (shl off l nn sz) (Nat.sub h l) (Nat.sub nn l) true) else none
       | _=>none
     | _=>none
    | some (.array nn e)=>match vF TT e with
      | none=>none
      | some sz=>match a with
       | .p id off=>match mx with
        | some _=>none
        | none=>match bndA E nn hi with
         | none=>none
         | some h=>bif and (Nat.ble l h) (Nat.ble h nn) then some (.sl id (shl off l nn sz) (Nat.sub h l) (Nat.sub nn l) true) else none
       | _=>none
    | some .string=>match a with
     | .s len n=>match mx with
      | some _=>none
      | none=>match bndA E len hi with
       | none=>none
       | some h=>bif and (Nat.ble l h) (Nat.ble h len) then some (.s (Nat.sub h l) (Nat.mod (Nat.div n (Nat.pow 256 l)) (Nat.pow 256 (Nat.sub h l)))) else none
     | _=>none
    | _=>none
 | .makeInterface t x=>match yV E x with
  | none=>none
  | some a=>match jF TT t with
   | none=>none
   | some (.interface _)=>none
   | some _=>some (.it t a)
 | .typeAssert x xt t ok=>match yV E x with
  | some (.it t' a)=>match jF TT t with
   | none=>none
   | some (.interface _)=>none
   | some _=>bif Nat.beq t' t then (bif ok then some (.tu [a,.b true]) else some a)
    else bif ok then (match zerT TT t with
     | none=>none
     | some z=>some (.tu [z,.b false])) else none
  | _=>none
 | .call c=>match c.callee with
  | .builtin .len=>match c.args.toList with
   | [x]=>match yV E x with
    | none=>none
    | some a=>match c.argTypes.toList with
     | [t]=>match jF TT t with
      | some (.slice _)=>(match a with
       | .s _ _=>none
       | a=>lenA a)
      | some .string=>(match a with
       | .s len _=>lenV len
       | _=>none)
      | _=>none
     | _=>none
   | _=>none
  | .builtin .cap=>match c.args.toList with
   | [x]=>match yV E x with
    | none=>none
    | some a=>match c.argTypes.toList with
     | [t]=>match jF TT t with
      | some (.slice _)=>capA a
      | _=>none
     | _=>none
   | _=>none
  | .builtin .max=>match c.args.toList with
   | [x,y]=>match yV E x,yV E y with
    | some (.i k u),some (.i k' w)=>bif decide (k=k') then (bif lessI k u w then some (.i k w) else some (.i k u)) else none
    | _,_=>none
   | _=>none
  | .builtin .min=>match c.args.toList with
   | [x,y]=>match yV E x,yV E y with
    | some (.i k u),some (.i k' w)=>bif decide (k=k') then (bif lessI k w u then some (.i k w) else some (.i k u)) else none
    | _,_=>none
   | _=>none
  | _=>none
 | _=>none
end
section
variable {P:Program} {TT:Nat→Option TI} {V:Val} {E:En} {g:Env}
theorem lenV_ok {n:Nat} {a:AV} (h:lenV n=some a):R V a (.int .i64 (n:Int)):=by
 unfold lenV at h
 simp only [cond_eq_ite] at h
 split at h
 ·rename_i hb
  rw [kU,decide_eq_true_eq] at hb
  simp only [Option.some.injEq] at h; subst h
  exact R.mkInt' (k:=.i64) (by simp only [pwK]; omega) (kW (k:=.i64) (by simp only [hfK]; exact hb))
 ·cases h
theorem binA_ok (hT:TOk P TT) {op:BinOp} {t ty:TypeId} {x y:Operand} {a b r:AV} {u v:Value} (h:binA TT op t a b=some r) (ha:R V a u) (hb:R V b v) (hx:ev g x=some u) (hy:ev g y=some v):∃ q,PV P g (.binOp op t x y ty) q∧R V r q:=by
 unfold binA at h
 split at h
 ·split at h
  ·obtain ⟨h1,rfl⟩:=ha.int
   obtain ⟨h2,rfl⟩:=hb.int
   split at h
   ·exact sh_sound h1 hx hy h
   ·exact sh_sound h1 hx hy h
   ·simp only [cond_eq_ite] at h
    split at h
    ·rename_i hk
     have hk:=of_decide_eq_true hk
     subst hk
     exact iop_sound h1 h2 hx hy h
    ·cases h
  ·cases h
 ·split at h
  ·obtain ⟨h1,rfl⟩:=ha.str
   obtain ⟨h2,rfl⟩:=hb.str
   split at h
   ·simp only [cond_eq_ite] at h
    split at h
    ·rename_i hs
     rw [kU,decide_eq_true_eq] at hs
     simp only [Option.some.injEq] at h; subst h
     obtain ⟨h3,h4⟩:=pv_str_add (P:=P) (t:=t) (ty:=ty) hx hy h1 h2 hs
     exact ⟨_,h4,by unfold R; exact ⟨h3,rfl⟩⟩
    ·cases h
   ·simp only [Option.some.injEq] at h; subst h
    exact ⟨_,(pv_str_eql (P:=P) (t:=t) (ty:=ty) hx hy h1 h2 O).1,by unfold R; rfl⟩
   ·simp only [Option.some.injEq] at h; subst h
    exact ⟨_,(pv_str_eql (P:=P) (t:=t) (ty:=ty) hx hy h1 h2 O).2,by unfold R; rfl⟩
   ·cases h
  ·cases h
 ·split at h
  ·split at h
   ·rename_i fs hu
    simp only [cond_eq_ite] at h
    split at h
    ·rename_i hfl
     split at h
     ·cases h
     ·rename_i r1 hf
      unfold R at ha hb
      obtain ⟨us,h1,_,rfl⟩:=ha
      obtain ⟨vs,h2,_,rfl⟩:=hb
      obtain ⟨f1,f2⟩:=flat_ok hT hfl
      have hU:Und P t (.struct fs):=⟨yP hT hu⟩
      have he:=fieldsEqA_ok hT h1 h2 hf
      split at h
      ·simp only [Option.some.injEq] at h; subst h
       exact ⟨_,pv_eql_struct hx hy f1 f2 he,by unfold R; rfl⟩
      ·simp only [Option.some.injEq] at h; subst h
       exact ⟨_,pv_neq_struct hx hy f1 f2 he,by unfold R; rfl⟩
      ·cases h
    ·cases h
   ·rename_i n e hu
    simp only [cond_eq_ite] at h
    split at h
    ·rename_i hfl
     split at h
     ·cases h
     ·rename_i sz hsz
      split at h
      ·cases h
      ·rename_i r1 hf
       unfold R at ha hb
       obtain ⟨us,h1,_,rfl⟩:=ha
       obtain ⟨vs,h2,_,rfl⟩:=hb
       obtain ⟨f1,f2⟩:=flat_ok hT hfl
       have hU:Und P t (.array n e):=⟨yP hT hu⟩
       obtain ⟨by',z,hI,_⟩:=uP hT hsz
       have he:=itemsEqA_ok hT h1 h2 hf
       split at h
       ·simp only [Option.some.injEq] at h; subst h
        exact ⟨_,pv_eql_array hx hy f2 he,by unfold R; rfl⟩
       ·cases h
    ·cases h
   ·cases h
  ·cases h
 ·split at h
  ·cases h
  ·rename_i d hu
   split at h
   ·cases h
   ·rename_i r1 he
    obtain ⟨h1,h2⟩:=eqP_ok (P:=P) (ty:=ty) (yP hT hu) he ha hb hx hy
    split at h
    ·simp only [Option.some.injEq] at h; subst h
     exact ⟨_,h1,by unfold R; rfl⟩
    ·simp only [Option.some.injEq] at h; subst h
     exact ⟨_,h2,by unfold R; rfl⟩
    ·cases h
end
end
end Ab
namespace Ab
noncomputable section
section
variable {P:Program} {TT:Nat→Option TI} {V:Val} {E:En} {g:Env}
theorem R.mkNil {V:Val} {id off:Nat} {v:Value} (h:R V (.p id off) v):∃ b c,V id=some (b,c)∧v=.pointer (some ⟨b,off,none⟩):=by unfold R at h; exact h
theorem isAggD_eq (d:TypeDesc):isAggD d=!wW d:=by cases d<;>rfl
theorem ok_pick (hE:RE V E g) {c a b:Operand} {r:AV} (h:doP TT E (.pick c a b)=some r):∃ q,PV P g (.pick c a b) q∧R V r q:=by
 simp only [doP] at h
 split at h
 ·rename_i hc
  obtain ⟨u,h1,h2⟩:=yI hE hc
  obtain ⟨v,h3,h4⟩:=yI hE h
  unfold R at h2; subst h2
  exact ⟨v,pv_pick_t h1 h3,h4⟩
 ·rename_i hc
  obtain ⟨u,h1,h2⟩:=yI hE hc
  obtain ⟨v,h3,h4⟩:=yI hE h
  unfold R at h2; subst h2
  exact ⟨v,pv_pick_f h1 h3,h4⟩
 ·cases h
theorem ok_nilCheck (hE:RE V E g) {x:Operand} {r:AV} (h:doP TT E (.nilCheck x)=some r):∃ q,PV P g (.nilCheck x) q∧R V r q:=by
 simp only [doP] at h
 split at h
 ·rename_i hx
  obtain ⟨u,h1,h2⟩:=yI hE hx
  simp only [Option.some.injEq] at h; subst h
  obtain ⟨b,c,h3,rfl⟩:=R.mkNil h2
  exact ⟨_,pv_nilCheck h1,h2⟩
 ·rename_i hx
  obtain ⟨u,h1,h2⟩:=yI hE hx
  simp only [Option.some.injEq] at h; subst h
  have h3:=h2
  unfold R at h3
  obtain ⟨vs,cs,_,_,rfl⟩:=h3
  refine ⟨_,fun o a w n ho ha=>?_,h2⟩
  unfold execOp; simp only [ho,ha.ev h1,Sem.run_pure]
 ·cases h
theorem ok_unOp (hE:RE V E g) {op:UnOp} {t:TypeId} {x:Operand} {r:AV} (h:doP TT E (.unOp op t x)=some r):∃ q,PV P g (.unOp op t x) q∧R V r q:=by
 simp only [doP] at h
 split at h
 ·rename_i q hx
  obtain ⟨u,h1,h2⟩:=yI hE hx
  unfold R at h2; subst h2
  split at h
  ·simp only [Option.some.injEq] at h; subst h
   exact ⟨_,pv_not h1,by unfold R; rfl⟩
  ·cases h
 ·rename_i k u hx
  obtain ⟨v,h1,h2⟩:=yI hE hx
  obtain ⟨h3,rfl⟩:=h2.int
  split at h
  ·simp only [Option.some.injEq] at h; subst h
   exact neg_sound h3 h1
  ·simp only [Option.some.injEq] at h; subst h
   refine ⟨.int k (k.wrap ((pwK k - 1 - u:Nat):Int)),fun o a w n ho ha=>?_,?_⟩
   ·unfold execOp
    have e1:(BitVec.ofInt k.bits (if k.signed then -1 else k.max))=BitVec.allOnes k.bits:=by
     cases k<;>simp only [IntKind.bits,IntKind.signed,IntKind.max]<;>decide
    have e2:(BitVec.ofInt k.bits (if k.signed then -1 else k.max) ^^^ BitVec.ofInt k.bits (k.wrap u)).toNat=pwK k - 1 - u:=by
     rw [e1,bv_wrap,BitVec.allOnes_xor,BitVec.toNat_not,BitVec.toNat_ofNat,pwK_eq,Nat.mod_eq_of_lt h3]
    simp only [ho,ha.ev h1,Op.unary,Op.intBits,Sem.run_bind,Sem.run_pure,Result.andThen_ok,e2]
   ·show R V (.i k (pwK k - 1 - u)) _
    exact R.mkInt (by have:=uN k; omega)
  ·cases h
 ·cases h
theorem ok_makeFunc (hE:RE V E g) {k:Nat} {first cap:Array Operand} {r:AV} (h:doP TT E (.makeFunc (.func k) first cap)=some r):∃ q,PV P g (.makeFunc (.func k) first cap) q∧R V r q:=by
 simp only [doP] at h
 split at h
 ·cases h
 ·rename_i asx ha
  split at h
  ·cases h
  ·rename_i cs hc
   simp only [Option.some.injEq] at h; subst h
   obtain ⟨us,h1,h2⟩:=opndL_ok hE ha
   obtain ⟨vs,h3,h4⟩:=opndL_ok hE hc
   refine ⟨.func (.func k) us.toArray vs.toArray,fun o a w n ho ha=>?_,by unfold R; exact ⟨us,vs,h2,h4,rfl⟩⟩
   unfold execOp
   have e1:first.map a.eval=us.toArray:=by apply Array.ext'; rw [Array.toList_map,ha.evs h1]
   have e2:cap.map a.eval=vs.toArray:=by apply Array.ext'; rw [Array.toList_map,ha.evs h3]
   simp only [ho,Instr.makeFunc,e1,e2,Sem.run_bind,Sem.run_pure,Result.andThen_ok]
theorem ok_fieldAddr (hT:TOk P TT) (hE:RE V E g) {t:TypeId} {x:Operand} {k:Nat} {r:AV} (h:doP TT E (.fieldAddr t x k)=some r):∃ q,PV P g (.fieldAddr t x k) q∧R V r q:=by
 simp only [doP] at h
 split at h
 ·rename_i id off hx
  split at h
  ·rename_i fs hu
   split at h
   ·cases h
   ·rename_i f hf
    split at h
    ·cases h
    ·rename_i m hm
     simp only [cond_eq_ite,Nat.beq_eq] at h
     split at h
     ·cases h
     ·rename_i h0
      simp only [Option.some.injEq] at h; subst h
      obtain ⟨u,h1,h2⟩:=yI hE hx
      obtain ⟨b,c,h3,rfl⟩:=R.mkNil h2
      obtain ⟨by',z,hi,_⟩:=uP hT hm
      have hU:Und P t (.struct fs):=⟨yP hT hu⟩
      obtain ⟨nm,ty,fo,em,tg,pk,bo⟩:=f
      exact ⟨_,@zV P g t fs hU x b off k nm tg pk ty fo bo em m by' z h1 hf hi (by simpa using h0),by unfold R; exact ⟨b,c,h3,rfl⟩⟩
  ·cases h
 ·cases h
theorem ok_field (hT:TOk P TT) (hE:RE V E g) {t:TypeId} {x:Operand} {k:Nat} {r:AV} (h:doP TT E (.field t x k)=some r):∃ q,PV P g (.field t x k) q∧R V r q:=by
 simp only [doP] at h
 split at h
 ·rename_i l hx
  split at h
  ·rename_i fs hu
   split at h
   ·cases h
   ·rename_i f hf
    split at h
    ·cases h
    ·rename_i d hd
     obtain ⟨u,h1,h2⟩:=yI hE hx
     unfold R at h2
     obtain ⟨vs,h3,h3a,rfl⟩:=h2
     simp only [cond_eq_ite,isAggD_eq] at h
     split at h
     ·rename_i hg
      split at h
      ·cases h
      ·rename_i m hm
       split at h
       ·rename_i hb
        have hb:=Nat.le_of_ble_eq_true hb
        simp only [Option.some.injEq] at h; subst h
        obtain ⟨by',z,hi,_⟩:=uP hT hm
        refine ⟨_,pv_part (yP hT hu) hf h1 (yP hT hd) (.inr ⟨by simpa using hg,m,by',z,hi,by rw [h3.length]; exact hb,rfl⟩),?_⟩
        unfold R; exact ⟨_,(h3.drop _).take _,fun u hu=>h3a u (List.mem_of_mem_drop (List.mem_of_mem_take hu)),rfl⟩
       ·cases h
     ·rename_i hg
      obtain ⟨v,hv,hr⟩:=h3.get h
      exact ⟨v,pv_part (yP hT hu) hf h1 (yP hT hd) (.inl ⟨by simpa using hg,hv⟩),hr⟩
  ·cases h
 ·cases h
theorem ok_indexAddr (hT:TOk P TT) (hE:RE V E g) {t:TypeId} {x ix:Operand} {r:AV} (h:doP TT E (.indexAddr t x ix)=some r):∃ q,PV P g (.indexAddr t x ix) q∧R V r q:=by
 simp only [doP] at h
 split at h
 ·cases h
 ·rename_i i hi
  split at h
  ·cases h
  ·rename_i n hn
   obtain ⟨u,h1,h2⟩:=yI hE hi
   obtain ⟨k,rfl⟩:=natA_ok hn h2
   split at h
   ·rename_i id off len cap kn hx
    split at h
    ·rename_i e hu
     split at h
     ·cases h
     ·rename_i m hm
      simp only [cond_eq_ite] at h
      split at h
      ·rename_i hb
       rw [kU,decide_eq_true_eq] at hb
       simp only [Option.some.injEq] at h; subst h
       obtain ⟨v,h3,h4⟩:=yI hE hx
       unfold R at h4
       obtain ⟨b,c,h5,_,rfl⟩:=h4
       obtain ⟨by',z,hI,_⟩:=uP hT hm
       have hU:Und P t (.slice e):=⟨yP hT hu⟩
       exact ⟨_,pv_indexAddr h3 h1 hb,by unfold R; exact ⟨b,c,h5,rfl⟩⟩
      ·cases h
    ·cases h
   ·rename_i id off hx
    split at h
    ·rename_i len e hu
     split at h
     ·cases h
     ·rename_i m hm
      simp only [cond_eq_ite] at h
      split at h
      ·rename_i hb
       rw [kU,decide_eq_true_eq] at hb
       simp only [Option.some.injEq] at h; subst h
       obtain ⟨v,h3,h4⟩:=yI hE hx
       obtain ⟨b,c,h5,rfl⟩:=R.mkNil h4
       obtain ⟨by',z,hI,_⟩:=uP hT hm
       exact ⟨_,pv_indexArr (yP hT hu) hI h3 h1 hb,by unfold R; exact ⟨b,c,h5,rfl⟩⟩
      ·cases h
    ·cases h
   ·cases h
theorem ok_index (hT:TOk P TT) (hE:RE V E g) {t:TypeId} {x ix:Operand} {r:AV} (h:doP TT E (.index t x ix)=some r):∃ q,PV P g (.index t x ix) q∧R V r q:=by
 simp only [doP] at h
 split at h
 ·cases h
 ·rename_i i hi
  split at h
  ·cases h
  ·rename_i n hn
   obtain ⟨u,h1,h2⟩:=yI hE hi
   obtain ⟨k,rfl⟩:=natA_ok hn h2
   split at h
   ·rename_i len m hx
    split at h
    ·rename_i hu
     simp only [cond_eq_ite] at h
     split at h
     ·rename_i hb
      rw [kU,decide_eq_true_eq] at hb
      simp only [Option.some.injEq] at h; subst h
      obtain ⟨v,h3,h4⟩:=yI hE hx
      obtain ⟨h5,rfl⟩:=h4.str
      refine ⟨_,pv_indexStr (yP hT hu) h3 h1 hb,?_⟩
      have hlt:m / 256 ^ n % 256<256:=Nat.mod_lt _ (by omega)
      exact R.mkInt' (k:=.u8) (u:=m / 256 ^ n % 256) (by simpa only [pwK] using hlt) (kW (k:=.u8) (by simpa only [hfK] using hlt))
     ·cases h
    ·cases h
   ·cases h
theorem ok_extract (hE:RE V E g) {x:Operand} {k:Nat} {r:AV} (h:doP TT E (.extract x k)=some r):∃ q,PV P g (.extract x k) q∧R V r q:=by
 simp only [doP] at h
 split at h
 ·rename_i l hx
  obtain ⟨u,h1,h2⟩:=yI hE hx
  unfold R at h2
  obtain ⟨vs,h3,rfl⟩:=h2
  obtain ⟨v,hv,hr⟩:=h3.get h
  exact ⟨v,pv_extract h1 (by simpa using hv),hr⟩
 ·cases h
theorem ok_build (hT:TOk P TT) (hE:RE V E g) {t:TypeId} {parts:Array (Nat × Operand)} {r:AV} (h:doP TT E (.build t parts)=some r):∃ q,PV P g (.build t parts) q∧R V r q:=by
 simp only [doP] at h
 split at h
 ·cases h
 ·rename_i vs hvs
  split at h
  ·cases h
  ·rename_i z hz
   split at h
   ·cases h
   ·rename_i zs hzs
    obtain ⟨us,h1,h2⟩:=opndL_ok hE hvs
    obtain ⟨m,by',zv,hm,_,hI,hsz,hR⟩:=zer_ok hT hz
    obtain ⟨hzc,hz1⟩:=wY hzs (hR V)
    have hl:vs.length=parts.toList.length:=by
     have e1:=h2.length
     have e2:us.length=(parts.toList.map (·.2)).length:=by
      have:∀ (xs:List Operand) (us:List Value),evs g xs=some us→us.length=xs.length:=by
       intro xs
       induction xs with
       | nil=>intro us h; simp only [evs,Option.some.injEq] at h; subst h; rfl
       | cons x xs ih =>
        intro us h
        simp only [evs] at h
        split at h
        ·rename_i v vs' e1 e2
         simp only [Option.some.injEq] at h; subst h
         simp [ih _ e2]
        ·cases h
      exact this _ _ h1
     rw [List.length_map] at e2; omega
    have hpa:parts=parts.toList.toArray:=by simp
    split at h
    ·rename_i fs hu
     split at h
     ·cases h
     ·rename_i pl hpl
      split at h
      ·cases h
      ·rename_i l hf
       simp only [Option.some.injEq] at h; subst h
       have hP:=plcA_ok hT (yP hT hu) hpl
       obtain ⟨os,h3,h4,h5⟩:=fillA_ok h2 hl hzc hz1 hf
       refine ⟨.agg os.toArray,?_,by unfold R; exact ⟨os,h4,h5,rfl⟩⟩
       rw [hpa]
       exact @pv_build P g t pl hP m by' zv hI parts.toList us os h1 h3
    ·rename_i nn e hu
     split at h
     ·cases h
     ·rename_i me hme
      split at h
      ·cases h
      ·rename_i l hf
       simp only [Option.some.injEq] at h; subst h
       obtain ⟨eby,ez,heI,_⟩:=uP hT hme
       obtain ⟨os,h3,h4,h5⟩:=fillA_ok h2 hl hzc hz1 hf
       have hU:Und P t (.array nn e):=⟨yP hT hu⟩
       refine ⟨.agg os.toArray,?_,by unfold R; exact ⟨os,h4,h5,rfl⟩⟩
       rw [hpa]
       exact @pv_buildArr P g t e nn hU m by' zv hI me eby ez heI parts.toList us os h1 h3
    ·cases h
theorem bnd0 {E:En} (hE:RE V E g) {l:Nat} {lo:Option Operand} (h:bndA E 0 lo=some l):(lo=none∧l=0)∨∃ y k,lo=some y∧ev g y=some (.int k (l:Int)):=bndA_ok hE h
theorem bnd1 {E:En} (hE:RE V E g) {d l:Nat} {y:Operand} (h:bndA E d (some y)=some l):∃ k,ev g y=some (.int k (l:Int)):=by
 rcases bndA_ok hE h with ⟨h,_⟩|⟨y',k,h,h2⟩
 ·cases h
 ·simp only [Option.some.injEq] at h; subst h; exact ⟨k,h2⟩
theorem arr_cut {id off l h nn sz b c:Nat} (hV:V id=some (b,c)) (h1:l≤h) (h2:h≤nn) :
  R V (.sl id (shl off l nn sz) (Nat.sub h l) (Nat.sub nn l) true) (.slice (some (if nn=l then ⟨b,off,none⟩ else (⟨b,off,none⟩:Addr).add (l*sz))) (h - l) (nn - l)):=by
 unfold R
 refine ⟨b,c,hV,Nat.sub_le_sub_right h2 l,?_⟩
 simp only [cond_true]
 have e:(if nn=l then ⟨b,off,none⟩ else (⟨b,off,none⟩:Addr).add (l*sz))=⟨b,shl off l nn sz,none⟩:=by
  unfold shl
  rw [beq_dec,cond_eq_ite]
  simp only [decide_eq_true_eq]
  split
  ·rfl
  ·rw [uK]; rfl
 rw [e]; rfl
theorem ok_slice (hT:TOk P TT) (hE:RE V E g) {t:TypeId} {x:Operand} {lo hi mx:Option Operand} {r:AV} (h:doP TT E (.slice t x lo hi mx)=some r):∃ q,PV P g (.slice t x lo hi mx) q∧R V r q:=by
 simp only [doP] at h
 split at h
 ·cases h
 ·rename_i a ha
  obtain ⟨u,h1,h2⟩:=yI hE ha
  split at h
  ·cases h
  ·rename_i l hl
   have hlo:=bnd0 hE hl
   split at h
   ·rename_i e hu
    split at h
    ·cases h
    ·rename_i sz hsz
     obtain ⟨by',z,hI,_⟩:=uP hT hsz
     split at h
     ·split at h
      ·have key:∀ len,(∀ ad l' c',u=.slice ad l' c'→len=l')→cutA sz l len none a=some r→∃ q,PV P g (.slice t x lo none none) q∧R V r q:=fun len hlen hc =>
        cut_none (yP hT hu) hI h1 h2 hlo (.inl ⟨rfl,fun ad l' c' e=>hlen ad l' c' e,rfl⟩) (.inl ⟨rfl,rfl⟩) hc
       split at h
       ·rename_i id off len cap kn
        refine key len (fun ad l' c' e=>?_) h
        unfold R at h2; obtain ⟨b,c,_,_,rfl⟩:=h2
        simp only [Value.slice.injEq] at e; exact e.2.1
       ·refine key 0 (fun ad l' c' e=>?_) h
        unfold R at h2; subst h2
        simp only [Value.slice.injEq] at e; exact e.2.1
       ·refine key 0 (fun ad l' c' e=>?_) h
        unfold R at h2; obtain ⟨_,_,rfl⟩:=h2
        simp only [Value.slice.injEq] at e; exact e.2.1
       ·cases h
      ·rename_i y
       split at h
       ·cases h
       ·rename_i hh hhi
        obtain ⟨k,hk⟩:=bnd1 hE hhi
        exact cut_none (yP hT hu) hI h1 h2 hlo (.inr ⟨y,k,rfl,hk⟩) (.inl ⟨rfl,rfl⟩) h
     ·rename_i y
      split at h
      ·cases h
      ·rename_i yh
       split at h
       ·cases h
       ·rename_i hh hhi
        obtain ⟨k,hk⟩:=bnd1 hE hhi
        split at h
        ·cases h
        ·rename_i m hm
         obtain ⟨km,hkm⟩:=bnd1 hE hm
         exact cut_none (yP hT hu) hI h1 h2 hlo (.inr ⟨yh,k,rfl,hk⟩) (.inr ⟨y,km,m,rfl,rfl,hkm⟩) h
   ·rename_i arr hu
    split at h
    ·rename_i nn e hu2
     split at h
     ·cases h
     ·rename_i sz hsz
      obtain ⟨by',z,hI,_⟩:=uP hT hsz
      split at h
      ·rename_i id off
       split at h
       ·cases h
       ·split at h
        ·cases h
        ·rename_i hh hhi
         simp only [cond_eq_ite,Bool.and_eq_true,Nat.ble_eq] at h
         split at h
         ·rename_i hb
          simp only [Option.some.injEq] at h; subst h
          obtain ⟨b,c,h3,rfl⟩:=R.mkNil h2
          have hhi2:(hi=none∧hh=nn∧(none:Option Operand)=none)∨∃ y k,hi=some y∧ev g y=some (.int k (hh:Int)):=by
           rcases bndA_ok hE hhi with ⟨a1,a2⟩|a3
           ·exact .inl ⟨a1,a2,rfl⟩
           ·exact .inr a3
          exact ⟨_,pv_cutPtr (yP hT hu) (yP hT hu2) hI h1 hlo hhi2 (mx:=none) (m:=nn) (.inl ⟨rfl,rfl⟩) hb.1 hb.2 (Nat.le_refl _),arr_cut h3 hb.1 hb.2⟩
         ·cases h
      ·cases h
    ·cases h
   ·rename_i nn e hu
    split at h
    ·cases h
    ·rename_i sz hsz
     obtain ⟨by',z,hI,_⟩:=uP hT hsz
     split at h
     ·rename_i id off
      split at h
      ·cases h
      ·split at h
       ·cases h
       ·rename_i hh hhi
        simp only [cond_eq_ite,Bool.and_eq_true,Nat.ble_eq] at h
        split at h
        ·rename_i hb
         simp only [Option.some.injEq] at h; subst h
         obtain ⟨b,c,h3,rfl⟩:=R.mkNil h2
         have hhi2:(hi=none∧hh=nn∧(none:Option Operand)=none)∨∃ y k,hi=some y∧ev g y=some (.int k (hh:Int)):=by
          rcases bndA_ok hE hhi with ⟨a1,a2⟩|a3
          ·exact .inl ⟨a1,a2,rfl⟩
          ·exact .inr a3
         exact ⟨_,pv_cutArr (yP hT hu) hI h1 hlo hhi2 (mx:=none) (m:=nn) (.inl ⟨rfl,rfl⟩) hb.1 hb.2 (Nat.le_refl _),arr_cut h3 hb.1 hb.2⟩
        ·cases h
     ·cases h
   ·rename_i hu
    split at h
    ·rename_i len n
     split at h
     ·cases h
     ·split at h
      ·cases h
      ·rename_i hh hhi
       simp only [cond_eq_ite,Bool.and_eq_true,Nat.ble_eq] at h
       split at h
       ·rename_i hb
        simp only [Option.some.injEq] at h; subst h
        obtain ⟨h3,rfl⟩:=h2.str
        have hhi2:(hi=none∧hh=len∧(none:Option Operand)=none)∨∃ y k,hi=some y∧ev g y=some (.int k (hh:Int)):=by
         rcases bndA_ok hE hhi with ⟨a1,a2⟩|a3
         ·exact .inl ⟨a1,a2,rfl⟩
         ·exact .inr a3
        refine ⟨_,pv_cutStr (yP hT hu) h1 hlo hhi2 hb.1 hb.2,?_⟩
        unfold R
        exact ⟨Nat.mod_lt _ (Nat.pow_pos (by omega)),rfl⟩
       ·cases h
    ·cases h
   ·cases h
theorem ok_iface (hT:TOk P TT) (hE:RE V E g) {t:TypeId} {x:Operand} {r:AV} (h:doP TT E (.makeInterface t x)=some r):∃ q,PV P g (.makeInterface t x) q∧R V r q:=by
 simp only [doP] at h
 split at h
 ·cases h
 ·rename_i a ha
  obtain ⟨u,h1,h2⟩:=yI hE ha
  split at h
  ·cases h
  ·cases h
  ·rename_i d hd hu
   simp only [Option.some.injEq] at h; subst h
   refine ⟨.iface t u,fun o ac w n ho hf=>?_,by unfold R; exact ⟨u,h2,rfl⟩⟩
   unfold execOp
   simp only [ho,hf.ev h1,Instr.makeInterface,Sem.run_bind,run_underlying (yP hT hu),Result.andThen_ok]
   cases d<;>first|exact absurd rfl (hd _)|rfl
theorem ok_assert (hT:TOk P TT) (hE:RE V E g) {x:Operand} {xt t:TypeId} {ok:Bool} {r:AV} (h:doP TT E (.typeAssert x xt t ok)=some r):∃ q,PV P g (.typeAssert x xt t ok) q∧R V r q:=by
 simp only [doP] at h
 split at h
 ·rename_i t' a ha
  obtain ⟨u,h1,h2⟩:=yI hE ha
  unfold R at h2
  obtain ⟨v,h3,rfl⟩:=h2
  split at h
  ·cases h
  ·cases h
  ·rename_i d hd hu
   have hrun:∀ (o:Oper) (ac:Act) (w:World) (n:Nat),o.op=.typeAssert x xt t ok→jE n ac g→(execOp ac.eval o).run P w=(if t'=t then (if ok then .ok (.value (.tuple #[v,.bool true])) w else .ok (.value v) w)
     else (do let s ← (if ok then (do pure (.tuple #[← zeroValue t,.bool false]):Sem Value) else runtimePanic (.typeAssertion (some xt) (some t') t "")); pure (.value s):Sem Next).run P w):=by
    intro o ac w n ho hf
    unfold execOp
    simp only [ho,hf.ev h1,Instr.typeAssert,Sem.run_bind,run_underlying (yP hT hu),Result.andThen_ok]
    cases d<;>first
     | exact absurd O (hd _)
     | (
       by_cases e:t'=t
       ·cases ok<;>simp [e]
       ·cases ok<;>simp [e])
   simp only [cond_eq_ite,Nat.beq_eq] at h
   split at h
   ·rename_i e
    cases ok with
    | true =>
     simp only [if_true,Option.some.injEq] at h; subst h
     exact ⟨.tuple #[v,.bool true],fun o ac w n ho hf=>by rw [hrun o ac w n ho hf,if_pos e]; rfl,by unfold R; exact ⟨[v,.bool true],RL.mk h3 (RL.mk (by unfold R; rfl) (RL.nil.2 O)),rfl⟩⟩
    | false =>
     simp only [Bool.false_eq_true,if_false,Option.some.injEq] at h; subst h
     exact ⟨v,fun o ac w n ho hf=>by rw [hrun o ac w n ho hf,if_pos e]; rfl,h3⟩
   ·rename_i e
    cases ok with
    | true =>
     simp only [if_true] at h
     split at h
     ·cases h
     ·rename_i z hz
      simp only [Option.some.injEq] at h; subst h
      obtain ⟨m,by',zv,_,_,⟨info,i1,i2,i3,i4⟩,_,hR⟩:=zer_ok hT hz
      refine ⟨.tuple #[zv,.bool false],fun o ac w n ho hf=>?_,by unfold R; exact ⟨[zv,.bool false],RL.mk (hR V) (RL.mk (by unfold R; rfl) (RL.nil.2 O)),rfl⟩⟩
      rw [hrun o ac w n ho hf,if_neg e]
      simp only [if_true,zeroValue,typeInfo,Sem.run_bind,run_program,i1,i4,Sem.run_pure,Result.andThen_ok]
    | false=>simp at h
 ·cases h
end
end
end Ab
set_option maxHeartbeats 16000000
set_option maxRecDepth 4000
set_option synthInstance.maxHeartbeats 400000
set_option synthInstance.maxSize 100000
attribute [local irreducible] vK xJ HoldW
def crcS (r:Nat):Nat:=bif Nat.beq (Nat.mod r 2) 1 then Nat.xor (Nat.div r 2) 2197175160 else Nat.div r 2
def crcN :Nat→Nat→Nat
 | 0,r=>r
 | k+1,r=>crcS (crcN k r)
def crcL (r:Nat) (l:List Bt):Nat:=l.foldl (fun r c=>crcN 8 (Nat.xor r c.val)) r
def crcF (s:Nat) (l:List Bt):Nat:=4294967295 - crcL (4294967295 - s) l
theorem crcS_lt {r:Nat} (h:r<4294967296):crcS r<4294967296:=by
 unfold crcS
 rw [cond_eq_ite]
 have h2:Nat.div r 2<2 ^ 32:=by show r / 2<2 ^ 32; omega
 split
 ·exact Nat.xor_lt_two_pow h2 (by decide)
 ·exact h2
theorem crcS_one {r:Nat} (h:((r % 2:Nat):Int)=1):crcS r=Nat.xor (r / 2) 2197175160:=by
 unfold crcS
 rw [cond_eq_ite,if_pos (by rw [Nat.beq_eq]; show r % 2=1; omega)]; rfl
theorem crcS_zero {r:Nat} (h:¬ ((r % 2:Nat):Int)=1):crcS r=r / 2:=by
 unfold crcS
 rw [cond_eq_ite,if_neg (by rw [Nat.beq_eq]; show ¬ r % 2=1; omega)]; rfl
section
variable {P:Program} {g:Env} {t ty:TypeId} {x y:Operand}
theorem u32_wrap (n:Int):IntKind.u32.wrap n=n % 4294967296:=by
 simp only [IntKind.wrap,IntKind.signed,IntKind.bits]
 simp
theorem u32_in (u:Nat) (h:u<4294967296):IntKind.u32.wrap (u:Int)=(u:Int):=by rw [u32_wrap]; omega
theorem pv_com32 {u:Nat} (hu:u<4294967296) (hx:ev g x=some (.int .u32 (u:Int))):PV P g (.unOp .xor t x) (.int .u32 ((4294967295 - u:Nat):Int)):=by
 rw [← u32_in u hu] at hx
 intro o a w n ho ha
 unfold execOp
 have e2:(BitVec.ofInt IntKind.u32.bits (if IntKind.u32.signed then -1 else IntKind.u32.max) ^^^ BitVec.ofInt IntKind.u32.bits (IntKind.u32.wrap u)).toNat=4294967295 - u:=by
  have e1:(BitVec.ofInt IntKind.u32.bits (if IntKind.u32.signed then -1 else IntKind.u32.max))=BitVec.allOnes IntKind.u32.bits:=by decide
  rw [e1,Ab.bv_wrap,BitVec.allOnes_xor,BitVec.toNat_not,BitVec.toNat_ofNat]
  show 2 ^ 32 - 1 - u % 2 ^ 32=_
  omega
 simp only [ho,ha.ev hx,Op.unary,Op.intBits,Sem.run_bind,Sem.run_pure,Result.andThen_ok,e2]
 rw [u32_in _ (by omega)]
theorem pv_xor32 {u w:Nat} (hu:u<4294967296) (hw:w<4294967296) (hx:ev g x=some (.int .u32 (u:Int))) (hy:ev g y=some (.int .u32 (w:Int))):PV P g (.binOp .xor t x y ty) (.int .u32 ((Nat.xor u w:Nat):Int)):=by
 rw [← u32_in u hu] at hx
 rw [← u32_in w hw] at hy
 have h:=(Ab.pv_bits (P:=P) (t:=t) (ty:=ty) (k:=.u32) (op:=.xor) hu hw hx hy (.inr (.inr ⟨rfl,rfl⟩)))
 have h1:Nat.xor u w<4294967296:=h.1
 have h2:=h.2
 rwa [u32_in _ h1] at h2
theorem pv_and32 {u:Nat} (hu:u<4294967296) (hx:ev g x=some (.int .u32 (u:Int))) (hy:ev g y=some (.int .u32 1)):PV P g (.binOp .and t x y ty) (.int .u32 ((u % 2:Nat):Int)):=by
 have hy':ev g y=some (.int .u32 (IntKind.u32.wrap ((1:Nat):Int))):=hy
 rw [← u32_in u hu] at hx
 have h:=(Ab.pv_bits (P:=P) (t:=t) (ty:=ty) (k:=.u32) (op:=.and) hu (show 1<Ab.pwK .u32 by decide) hx hy' (.inl ⟨rfl,rfl⟩))
 have e:Nat.land u 1=u % 2:=Nat.and_one_is_mod u
 have h2:=h.2
 rw [e,u32_in _ (by omega)] at h2
 exact h2
theorem pv_shr32 {k2:IntKind} {u:Nat} (hx:ev g x=some (.int .u32 (u:Int))) (hy:ev g y=some (.int k2 1)):PV P g (.binOp .shr t x y ty) (.int .u32 ((u / 2:Nat):Int)):=by
 have:=pv_shr (P:=P) (t:=t) (ty:=ty) hx hy (by decide)
 have e:((u:Int).fdiv (2 ^ (min (1:Int).toNat IntKind.u32.bits)))=((u / 2:Nat):Int):=by
  show (u:Int).fdiv 2=_
  rw [Int.fdiv_eq_ediv_of_nonneg _ (by omega)]; omega
 rwa [e] at this
end
theorem crcL_take (r:Nat) {l:List Bt} {k:Nat} (h:k<l.length):crcL r (l.take (k+1))=crcN 8 (Nat.xor (crcL r (l.take k)) l[k].val):=by
 unfold crcL
 rw [List.take_succ_eq_append_getElem h,List.foldl_append]; rfl
theorem sumsMore_spec (w0:World) (X:Hp) (v:Value) (bs:List Bt) (s:Nat) (hs:s<4294967296) (hv:RdL w0 X v bs) (hl:bs.length≤1000000000000) :
  Spec Tryz.prog w0 149 [.int .u32 (s:Int),v] X (fun r h'=>r=.int .u32 (crcF s bs:Nat)∧X=h'):=by
 obtain ⟨a,c,rfl⟩:=hv.shape
 refine zL Tryz.func149 O Tryz.ntmps149 Tryz.results149 O fun fr=>?_
 refine zaA ?_
 refine yC O O (pv_com32 hs O) ?_
 refine zaA ?_
 refine hold_count bs.length (fun k g L=>∃ (r:Nat) (R:Hp),g=[(5,.int .u32 (r:Int)),(11,.slice a bs.length c),(12,.int .i64 bs.length),(13,.int .i64 k)]∧r<4294967296∧r=crcL (4294967295 - s) (bs.take k)∧L=X+fr+R) _ ⟨4294967295 - s,_,rfl,by omega,rfl,yF.out⟩ zsb ?_
 rintro k g L hk ⟨r,R,rfl,hr,hre,rfl⟩
 refine zaA ?_
 refine yB O O (pv_lss O O) (fun h3=>?_) (fun h3=>?_)
 ·have hx:k<bs.length:=by omega
  obtain ⟨b2,o2,rfl,e,rfl,hat⟩:=hv.at hx
  have hb8:bs[k].val<4294967296:=by have:=bs[k].isLt; omega
  have hxr:Nat.xor r bs[k].val<4294967296:=Nat.xor_lt_two_pow (n:=32) hr hb8
  refine zaA ?_
  refine yC O O (pv_conv_to (m:=((bs[k].val:Nat):Int)) O (u32_in _ hb8)) ?_
  refine zaA ?_
  refine yC O O (pv_xor32 hr hb8 O O) ?_
  refine zaA ?_
  refine hold_count 8 (fun j g L=>∃ (q:Nat) (R:Hp),g=[(5,.int .u32 (q:Int)),(11,.slice (some ⟨b2,o2,none⟩) bs.length c),(12,.int .i64 bs.length),(13,.int .i64 k),(21,.int .i64 j)]∧q<4294967296∧q=crcN j (Nat.xor r bs[k].val)∧L=X+fr+R) _ ⟨_,_,rfl,hxr,rfl,yF.out⟩ zsb ?_
  rintro j g L hj ⟨q,R,rfl,hq,hqe,rfl⟩
  refine zaA ?_
  refine yB O O (pv_lss O O) (fun h4=>?_) (fun h4=>?_)
  ·have hj8:j<8:=by omega
   refine zaA ?_
   refine yC O O (pv_and32 hq O O) ?_
   refine zaA ?_
   refine yC O O (pv_shr32 O O) ?_
   refine zaA ?_
   refine yB O O (pv_eql O O) (fun h5=>?_) (fun h5=>?_)
   ·refine zaA ?_
    refine yC O O (pv_xor32 (w:=2197175160) (by omega) (by decide) O O) ?_
    refine zaA ?_
    exact ⟨hj8,_,zsb,_,_,rfl,by rw [← crcS_one h5]; exact crcS_lt hq,by rw [← crcS_one h5,hqe]; rfl,yF.out⟩
   ·refine zaA ?_
    exact ⟨hj8,_,zsb,_,_,rfl,by omega,by rw [← crcS_zero h5,hqe]; rfl,yF.out⟩
  ·have hj8:j=8:=by omega
   subst hj8
   refine zaA ?_
   exact ⟨hx,_,zsb,_,_,rfl,hq,by rw [crcL_take _ hx,← hre]; exact hqe,yF.out⟩
 ·rw [List.take_of_length_le (by omega)] at hre
  refine zaA ?_
  refine yC O O (pv_com32 hr O) ?_
  refine zaA ?_
  exact ⟨[_],X,_,⟨rfl,trivial⟩,⟨by rw [hre]; rfl,rfl⟩,yF.out⟩
end Sl
end Go.Proofs.YtnkiahopaaibhaaGreat
namespace Go.Proofs.YtnkiahopaaibhaaGreat
open Go Go.RowKit
namespace Sl
namespace Ab
noncomputable section
section
variable {P:Program} {TT:Nat→Option TI} {V:Val} {E:En} {g:Env}
theorem R.len {a r:AV} {ad:Option Addr} {l c:Nat} (h:R V a (.slice ad l c)) (hl:lenA a=some r):R V r (.int .i64 (l:Int)):=by
 cases a<;>simp only [lenA,reduceCtorEq] at hl<;>unfold R at h
 ·obtain ⟨_,h⟩:=h; cases h
 ·obtain ⟨b,c',_,_,h⟩:=h
  simp only [Value.slice.injEq] at h
  rw [h.2.1]; exact lenV_ok hl
 ·obtain ⟨a',c',h⟩:=h
  simp only [Value.slice.injEq] at h
  simp only [Option.some.injEq] at hl; subst hl
  rw [h.2.1]; exact R.mkInt' (k:=.i64) (by simp [pwK]) O
 ·simp only [Value.slice.injEq] at h
  simp only [Option.some.injEq] at hl; subst hl
  rw [h.2.1]; exact R.mkInt' (k:=.i64) (by simp [pwK]) O
theorem R.isSlice {a r:AV} {v:Value} (h:R V a v) (hl:lenA a=some r) (hs:∀ l n,a≠.s l n):∃ ad l c,v=.slice ad l c:=by
 cases a<;>simp only [lenA,reduceCtorEq] at hl<;>unfold R at h
 ·exact absurd O (hs _ _)
 ·obtain ⟨b,c',_,_,rfl⟩:=h; exact ⟨_,_,_,rfl⟩
 ·obtain ⟨_,_,rfl⟩:=h; exact ⟨_,_,_,rfl⟩
 ·subst h; exact ⟨_,_,_,rfl⟩
theorem lessI_iff {k:IntKind} {u w:Nat} (hu:u<pwK k) (hw:w<pwK k):lessI k u w=decide (k.wrap (u:Int)<k.wrap (w:Int)):=by
 unfold lessI; rw [kU]; exact (decide_eq_decide.2 (wrap_lt_iff hu hw)).symm
theorem ok_call (hT:TOk P TT) (hE:RE V E g) {c:Call} {r:AV} (h:doP TT E (.call c)=some r):∃ q,PV P g (.call c) q∧R V r q:=by
 obtain ⟨callee,args,ts⟩:=c
 have ea:args=args.toList.toArray:=by simp
 have et:ts=ts.toList.toArray:=by simp
 simp only [doP] at h
 split at h
 ·split at h
  ·rename_i x hx
   rw [ea,hx]
   split at h
   ·cases h
   ·rename_i a ha
    obtain ⟨u,h1,h2⟩:=yI hE ha
    split at h
    ·rename_i t ht
     rw [et,ht]
     split at h
     ·rename_i e hu
      have hU:Und P t (.slice e):=⟨yP hT hu⟩
      split at h
      ·cases h
      ·rename_i hns
       obtain ⟨ad,l,c',rfl⟩:=h2.isSlice h (fun l n e=>hns l n e)
       exact ⟨_,pv_len h1,h2.len h⟩
     ·rename_i hu
      split at h
      ·obtain ⟨h3,rfl⟩:=h2.str
       exact ⟨_,pv_lenStr (yP hT hu) h1,lenV_ok h⟩
      ·cases h
     ·cases h
    ·cases h
  ·cases h
 ·split at h
  ·rename_i x hx
   rw [ea,hx]
   split at h
   ·cases h
   ·rename_i a ha
    obtain ⟨u,h1,h2⟩:=yI hE ha
    split at h
    ·rename_i t ht
     rw [et,ht]
     split at h
     ·rename_i e hu
      unfold capA at h
      split at h
      ·unfold R at h2
       obtain ⟨b,c',_,_,rfl⟩:=h2
       exact ⟨_,pv_capS (yP hT hu) h1,lenV_ok h⟩
      ·unfold R at h2; subst h2
       simp only [Option.some.injEq] at h; subst h
       exact ⟨_,pv_capS (yP hT hu) h1,R.mkInt' (k:=.i64) (by simp [pwK]) O⟩
      ·cases h
     ·cases h
    ·cases h
  ·cases h
 ·split at h
  ·rename_i x y hx
   rw [ea,hx]
   split at h
   ·rename_i k u k' w hx hy
    obtain ⟨u',h1,h2⟩:=yI hE hx
    obtain ⟨w',h3,h4⟩:=yI hE hy
    obtain ⟨b1,rfl⟩:=h2.int
    obtain ⟨b2,rfl⟩:=h4.int
    simp only [cond_eq_ite,decide_eq_true_eq] at h
    split at h
    ·rename_i e
     subst e
     refine ⟨_,pv_max h1 h3,?_⟩
     rw [lessI_iff b1 b2] at h
     simp only [decide_eq_true_eq] at h
     split at h
     ·rename_i hl
      simp only [Option.some.injEq] at h; subst h
      rw [if_pos hl]; exact h4
     ·rename_i hl
      simp only [Option.some.injEq] at h; subst h
      rw [if_neg hl]; exact h2
    ·cases h
   ·cases h
  ·cases h
 ·split at h
  ·rename_i x y hx
   rw [ea,hx]
   split at h
   ·rename_i k u k' w hx hy
    obtain ⟨u',h1,h2⟩:=yI hE hx
    obtain ⟨w',h3,h4⟩:=yI hE hy
    obtain ⟨b1,rfl⟩:=h2.int
    obtain ⟨b2,rfl⟩:=h4.int
    simp only [cond_eq_ite,decide_eq_true_eq] at h
    split at h
    ·rename_i e
     subst e
     refine ⟨_,pv_min h1 h3,?_⟩
     rw [lessI_iff b2 b1] at h
     simp only [decide_eq_true_eq] at h
     split at h
     ·rename_i hl
      simp only [Option.some.injEq] at h; subst h
      rw [if_pos hl]; exact h4
     ·rename_i hl
      simp only [Option.some.injEq] at h; subst h
      rw [if_neg hl]; exact h2
    ·cases h
   ·cases h
  ·cases h
 ·cases h
theorem doP_ok (hT:TOk P TT) (hE:RE V E g) {op:Op} {r:AV} (h:doP TT E op=some r):∃ q,PV P g op q∧R V r q:=by
 cases op with
 | move x=>obtain ⟨u,h1,h2⟩:=yI hE h; exact ⟨u,pv_move h1,h2⟩
 | assign x=>obtain ⟨u,h1,h2⟩:=yI hE h; exact ⟨u,pv_assign h1,h2⟩
 | pick c a b=>exact ok_pick hE h
 | nilCheck x=>exact ok_nilCheck hE h
 | binOp op t x y ty =>
  simp only [doP] at h
  split at h
  ·cases h
  ·rename_i a ha
   split at h
   ·cases h
   ·rename_i b hb
    obtain ⟨u,h1,h2⟩:=yI hE ha
    obtain ⟨v,h3,h4⟩:=yI hE hb
    exact binA_ok hT h h2 h4 h1 h3
 | unOp op t x=>exact ok_unOp hE h
 | convert src dst x =>
  simp only [doP] at h
  split at h
  ·rename_i k u hx
   split at h
   ·cases h
   ·rename_i ds hs
    split at h
    ·rename_i d hd
     simp only [Option.some.injEq] at h; subst h
     obtain ⟨v,h1,h2⟩:=yI hE hx
     obtain ⟨h3,rfl⟩:=h2.int
     exact cv_sound ⟨ds,yP hT hs⟩ (yP hT hd) h3 h1
    ·cases h
  ·cases h
 | makeFunc fn first cap =>
  cases fn with
  | func k=>exact ok_makeFunc hE h
  | _=>simp [doP] at h
 | fieldAddr t x k=>exact ok_fieldAddr hT hE h
 | field t x k=>exact ok_field hT hE h
 | indexAddr t x ix=>exact ok_indexAddr hT hE h
 | index t x ix=>exact ok_index hT hE h
 | extract x k=>exact ok_extract hE h
 | build t parts=>exact ok_build hT hE h
 | slice t x lo hi mx=>exact ok_slice hT hE h
 | sliceToArrayPointer t x =>
  simp only [doP] at h
  split at h
  ·rename_i m e hu
   split at h
   ·rename_i id off len cap kn hx
    rw [cond_eq_ite] at h
    split at h
    ·rename_i hle
     have hle:m≤len:=Nat.le_of_ble_eq_true hle
     simp only [Option.some.injEq] at h; subst h
     obtain ⟨u,h1,h2⟩:=yI hE hx
     unfold R at h2
     obtain ⟨b,c,hV,_,rfl⟩:=h2
     refine ⟨.pointer (some ⟨b,off,none⟩),fun o a w n ho ha=>?_,by unfold R; exact ⟨b,c,hV,rfl⟩⟩
     unfold execOp
     simp only [ho,ha.ev h1,Instr.arrayAt,Sem.run_bind,run_underlying (yP hT hu),Result.andThen_ok,show ¬ (len<m) by omega,if_false,Sem.run_pure]
    ·cases h
   ·cases h
  ·cases h
 | makeInterface t x=>exact ok_iface hT hE h
 | typeAssert x xt t ok=>exact ok_assert hT hE h
 | call c=>exact ok_call hT hE h
 | _=>simp [doP] at h
def loadA (TT:Nat→Option TI) (H:T AO) (t:TypeId) (id off:Nat):Option AV:=match H.get id with
 | none=>none
 | some o=>match jF TT t with
  | none=>none
  | some d=>bif isAggD d then (match vF TT t with
   | none=>none
   | some n=>match readN o n off with
    | none=>none
    | some l=>some (.ag l)) else cellAt o off
theorem ro_cells {C e n:Nat} {kn:Bool} {s:CT} {ob:Obj} (h:RO P V C (.c e n kn s) ob):∃ c:List Value,ob=.cells c.toArray e (0,0)∧RO P V C (.c e n kn s) (.cells c.toArray e (0,0)):=by
 have h':=h
 obtain ⟨_,c,rfl,_⟩:=h
 exact ⟨c,rfl,h'⟩
theorem ro_get {C e n:Nat} {kn:Bool} {s:CT} {c:List Value} (h:RO P V C (.c e n kn s) (.cells c.toArray e (0,0))) {k:Nat} {v:AV} (hv:cellAt (.c e n kn s) k=some v):∃ u,c[k]?=some u∧R V v u:=by
 obtain ⟨h0,c',h1,h11,h2,h3,h4,h5⟩:=h
 have h1:c=c':=by simpa using congrArg (fun o=>match o with|Obj.cells a _ _=>a.toList|_=>[]) h1
 subst h1
 obtain ⟨hk,hv⟩:=cellAt_lt hv
 exact h5 k v hk hv
theorem loadA_ok (hT:TOk P TT) {w0:World} {H:T AO} {nx:Nat} {h fr:Hp} (hH:RH P V H nx h) {t id off:Nat} {a:AV} (hl:loadA TT H t id off=some a) :
  ∃ b C u,V id=some (b,C)∧uA P w0 (h+fr) t ⟨b,off,none⟩ u∧R V a u:=by
 unfold loadA at hl
 split at hl
 ·cases hl
 ·rename_i o ho
  obtain ⟨b,C,ob,Rr,hV,hh,hO⟩:=hH.has id o ho
  split at hl
  ·cases hl
  ·rename_i d hd
   have hU:Und P t d:=⟨yP hT hd⟩
   cases o with
   | si len n pos =>
    rw [isAggD_eq] at hl
    simp only [cellAt,readN] at hl
    cases hn:wW d<;>simp [hn] at hl
    split at hl<;>cases hl
   | mp es clock =>
    rw [isAggD_eq] at hl
    simp only [cellAt,readN] at hl
    cases hn:wW d<;>simp [hn] at hl
    split at hl<;>cases hl
   | c e n kn s =>
    obtain ⟨c,rfl,hO⟩:=ro_cells hO
    have hpt:HasPt b (h+fr) (.cells c.toArray e (0,0)) (Rr+fr):=⟨by rw [hh,yH]⟩
    rw [isAggD_eq] at hl
    cases hn:wW d with
    | true =>
     simp only [hn,Bool.not_true,cond_false] at hl
     obtain ⟨u,hu,hR⟩:=ro_get hO hl
     exact ⟨b,C,u,hV,zD hn (zQ hu),hR⟩
    | false =>
     simp only [hn,Bool.not_false,cond_true] at hl
     split at hl
     ·cases hl
     ·rename_i m hm
      split at hl
      ·cases hl
      ·rename_i l hr
       simp only [Option.some.injEq] at hl; subst hl
       obtain ⟨r1,r2,r3,r4,r5⟩:=hO.readN hr
       obtain ⟨by',z,hI,_⟩:=uP hT hm
       exact ⟨b,C,.agg ((c.drop off).take m).toArray,hV,zJ hn O (by simp; omega),by unfold R; exact ⟨_,r4,r5,rfl⟩⟩
end
end
end Ab
namespace Ab
noncomputable section
abbrev Eff :=AV × T AO × Nat
def EOk (P:Program) (w0:World) (V:Val) (h fr:Hp) (g:Env) (op:Op) (r:Eff):Prop :=
 EV P w0 (h+fr) g op fun u L'=>∃ V' h',V≤V'∧L'=h'+fr∧R V' r.1 u∧RH P V' r.2.1 r.2.2 h'
def wC :AV:=.tu []
theorem R.und {V:Val}:R V wC undef:=by unfold wC R; exact ⟨[],RL.nil.2 O,rfl⟩
def blkA (e:Nat) (l:List AV):AO:=.c e l.length true (cellsOf l.length l)
section
variable {P:Program} {TT:Nat→Option TI} {V:Val} {E:En} {g:Env} {w0:World} {H:T AO} {nx:Nat} {h fr:Hp}
theorem EV.imp {L:Hp} {op:Op} {post post':Value→Hp→Prop} (he:EV P w0 L g op post) (hi:∀ u L',post u L'→(∃ w,St w0 w L')→post' u L'):EV P w0 L g op post':=by
 intro o a w n ho ha hst
 obtain ⟨v,w',L',h1,h2,h3⟩:=he o a w n ho ha hst
 exact ⟨v,w',L',h1,hi v L' h2 ⟨w',h3⟩,h3⟩
theorem new_ok (hH:RH P V H nx h) {op:Op} {C:Nat} {o:AO} {a:AV} {ob:Obj} {mk:Nat→Value} (he:EV P w0 (h+fr) g op fun u L'=>∃ b,u=mk b∧L'=pt b ob+(h+fr)) (hO:∀ V',V≤V'→RO P V' C o ob) (hR:∀ b,R (V.set nx b C) a (mk b)) :
  EOk P w0 V h fr g op (a,H.put o nx,Nat.succ nx):=by
 refine EV.imp he ?_
 rintro u L' ⟨b,rfl,rfl⟩ ⟨w,hst⟩
 have hle:V≤V.set nx b C:=Val.le_set (hH.fresh nx (Nat.le_refl _))
 obtain ⟨_,h2⟩:=hH.new (b:=b) (C:=C) (ob:=ob) (o:=o) ⟨w0,w,fr,hst⟩ (hO _ hle)
 exact ⟨_,_,hle,by rw [yH],hR b,h2⟩
theorem blk_ok {e:Nat} {l:List AV} {us:List Value} (hl:RL V l us) (h1:yW us) {C:Nat}:∀ V',V≤V'→RO P V' C (blkA e l) (.cells us.toArray e (0,0)):=fun V' hle=>by
 have:=RO.fresh (P:=P) (V:=V') (C:=C) (e:=e) (kn:=true) (ws:=[]) (hl.mono hle l) h1 (fun u hu=>by cases hu) O (fun _=>rfl) (fun h=>by cases h)
 unfold blkA; simpa only [List.append_nil] using this
theorem ptr_ok {b C:Nat}:R (V.set nx b C) (.p nx 0) (.pointer (some ⟨b,0,none⟩)):=by unfold R; exact ⟨b,C,Val.set_self _ _ _ _,rfl⟩
def allocA (TT:Nat→Option TI) (H:T AO) (nx t:Nat):Option Eff:=match zerT TT t with
 | none=>none
 | some z=>match uE z with
  | none=>none
  | some l=>some (.p nx 0,H.put (blkA t l) nx,Nat.succ nx)
theorem alloc_ok (hT:TOk P TT) (hH:RH P V H nx h) {t:Nat} {r:Eff} (hr:allocA TT H nx t=some r):EOk P w0 V h fr g (.alloc t) r:=by
 unfold allocA at hr
 split at hr
 ·cases hr
 ·rename_i z hz
  split at hr
  ·cases hr
  ·rename_i l hl
   simp only [Option.some.injEq] at hr; subst hr
   obtain ⟨m,by',zv,hm,_,hI,hsz,hR⟩:=zer_ok hT hz
   obtain ⟨h1,h2⟩:=wY hl (hR V)
   have he:=@ev_alloc P w0 (h+fr) g t m by' zv hI
   refine new_ok hH (C:=0) (mk:=fun b=>.pointer (some ⟨b,0,none⟩)) (ob:=.cells zv.cells.toList.toArray t (0,0)) ?_ (blk_ok h1 h2) (fun b=>ptr_ok)
   simpa using he
def boxA (H:T AO) (E:En) (nx t:Nat) (x:Operand):Option Eff:=match yV E x with
 | none=>none
 | some a=>match uE a with
  | none=>none
  | some l=>some (.p nx 0,H.put (blkA t l) nx,Nat.succ nx)
theorem box_ok (hE:RE V E g) (hH:RH P V H nx h) {t:Nat} {x:Operand} {r:Eff} (hr:boxA H E nx t x=some r):EOk P w0 V h fr g (.box t x) r:=by
 unfold boxA at hr
 split at hr
 ·cases hr
 ·rename_i a ha
  split at hr
  ·cases hr
  ·rename_i l hl
   simp only [Option.some.injEq] at hr; subst hr
   obtain ⟨u,h3,h4⟩:=yI hE ha
   obtain ⟨h1,h2⟩:=wY hl h4
   have he:=@ev_box P w0 (h+fr) g t x u h3
   refine new_ok hH (C:=0) (mk:=fun b=>.pointer (some ⟨b,0,none⟩)) (ob:=.cells u.cells.toList.toArray t (0,0)) ?_ (blk_ok h1 h2) (fun b=>ptr_ok)
   simpa using he
def buildSA (TT:Nat→Option TI) (H:T AO) (E:En) (nx t len:Nat) (parts:Array (Nat × Operand)):Option Eff:=match jF TT t with
 | some (.slice e)=>match opndL E (parts.toList.map (·.2)) with
  | none=>none
  | some vs=>match zerT TT e with
   | none=>none
   | some z=>match uE z with
    | none=>none
    | some zs=>match vF TT e with
     | none=>none
     | some sz=>bif Nat.ble (Nat.mul len sz) 16777216 then (match fillA (fun i=>some (i*sz,sz)) (repA zs len) (pairA parts.toList vs) with
      | none=>none
      | some l=>some (.sl nx 0 len len true,H.put (blkA e l) nx,Nat.succ nx)) else none
 | _=>none
theorem evs_length :∀ {xs:List Operand} {us:List Value},evs g xs=some us→us.length=xs.length
 | [],us,h=>by simp only [evs,Option.some.injEq] at h; subst h; rfl
 | x::xs,us,h=>by
  simp only [evs] at h
  split at h
  ·rename_i v vs' e1 e2
   simp only [Option.some.injEq] at h; subst h
   simp [evs_length e2]
  ·cases h
theorem uQ {us:List Value} (h:yW us) (n:Nat):yW (List.replicate n us).flatten:=fun u hu=>by
 obtain ⟨l,hl,hul⟩:=List.mem_flatten.1 hu
 rw [List.eq_of_mem_replicate hl] at hul
 exact h u hul
theorem buildS_ok (hT:TOk P TT) (hE:RE V E g) (hH:RH P V H nx h) {t len:Nat} {parts:Array (Nat × Operand)} {r:Eff} (hr:buildSA TT H E nx t len parts=some r):EOk P w0 V h fr g (.buildSlice t len parts) r:=by
 unfold buildSA at hr
 split at hr
 ·rename_i e hu
  split at hr
  ·cases hr
  ·rename_i vs hvs
   split at hr
   ·cases hr
   ·rename_i z hz
    split at hr
    ·cases hr
    ·rename_i zs hzs
     split at hr
     ·cases hr
     ·rename_i sz hsz
      simp only [cond_eq_ite] at hr
      split at hr
      ·rename_i hlim
       have hlim:=Nat.le_of_ble_eq_true hlim
       split at hr
       ·cases hr
       ·rename_i l hf
        simp only [Option.some.injEq] at hr; subst hr
        obtain ⟨us,h1,h2⟩:=opndL_ok hE hvs
        obtain ⟨m,by',zv,hm,_,hI,hcs,hR⟩:=zer_ok hT hz
        have e1:m=sz:=by rw [hm] at hsz; simpa using hsz
        subst e1
        obtain ⟨hzc,hz1⟩:=wY hzs (hR V)
        have hl:vs.length=parts.toList.length:=by
         have e1:=h2.length
         have e2:=evs_length h1
         rw [List.length_map] at e2; omega
        obtain ⟨os,h3,h4,h5⟩:=fillA_ok h2 hl (repA_ok hzc len) (uQ hz1 len) hf
        have hU:Und P t (.slice e):=⟨yP hT hu⟩
        have he:=@ev_buildSlice P w0 (h+fr) g t e hU m by' zv hI len parts.toList us os h1 (decide_eq_true hlim) (by simpa using hcs) h3
        refine new_ok hH (C:=len) (mk:=fun b=>.slice (some ⟨b,0,none⟩) len len) (ob:=.cells os.toArray e (0,0)) ?_ (blk_ok h4 h5) (fun b=>?_)
        ·simpa using he
        ·unfold R; exact ⟨b,len,Val.set_self _ _ _ _,Nat.le_refl _,rfl⟩
      ·cases hr
 ·cases hr
theorem ev_storeG {t:TypeId} {sz by':Nat} {z:Value} (hi:Inf P t sz by' z) {x y:Operand} {b off:Nat} {c:List Value} {e:TypeId} {v:Value} {vs:List Value} {L Rr:Hp}
  (hx:ev g x=some (.pointer (some ⟨b,off,none⟩))) (hy:ev g y=some v) (hv:v.cells.toList=vs) (hl:vs.length=sz) (h1:yW vs) (hb:L=pt b (.cells c.toArray e (0,0))+Rr) (hc:off+vs.length≤c.length) :
  EV P w0 L g (.store t x y) fun u L'=>u=undef∧L'=pt b (.cells (kX off vs c).toArray e (0,0))+Rr:=by
 intro o a w m ho ha hst
 obtain ⟨i,i1,i2,i3,i4⟩:=hi.out
 subst hb
 obtain ⟨w',e1,e2⟩:=vO (P:=P) (off:=off) vs 0 c w hst (fun v hv=>h1 v hv) (by omega)
 refine ⟨undef,w',_,.inr ⟨?_,rfl⟩,⟨rfl,rfl⟩,e2⟩
 have hsz:¬ (v.cells.size≠sz):=by rw [← Array.length_toList,hv]; simpa using hl
 have e1':(storeCells ⟨b,off,none⟩ v.cells.toList).run P w=.ok () w':=by rw [hv]; exact e1
 unfold execOp
 simp only [ho,ha.ev hx,ha.ev hy,Instr.storeAt,Instr.sureAddr,pure_bind,storeVar,sizeOf,typeInfo,Sem.run_bind,run_program,i1,Sem.run_pure,Result.andThen_ok,i2,hsz,if_false,e1']
def storeA (TT:Nat→Option TI) (H:T AO) (E:En) (nx t:Nat) (x y:Operand):Option Eff:=match yV E x with
 | some (.p id off)=>match yV E y with
  | none=>none
  | some a=>match uE a with
   | none=>none
   | some l=>match H.get id with
    | some (.c e n kn s)=>match vF TT t with
     | none=>none
     | some m=>bif and (Nat.beq l.length m) (Nat.ble (Nat.add off m) n) then some (wC,H.put (.c e n kn (s.write l off)) id,nx) else none
    | _=>none
 | _=>none
theorem store_ok (hT:TOk P TT) (hE:RE V E g) (hH:RH P V H nx h) {t:Nat} {x y:Operand} {r:Eff} (hr:storeA TT H E nx t x y=some r):EOk P w0 V h fr g (.store t x y) r:=by
 unfold storeA at hr
 split at hr
 ·rename_i id off hx
  split at hr
  ·cases hr
  ·rename_i a ha
   split at hr
   ·cases hr
   ·rename_i l hl
    split at hr
    ·rename_i e n kn s ho
     split at hr
     ·cases hr
     ·rename_i m hm
      simp only [cond_eq_ite,Bool.and_eq_true,Nat.beq_eq,Nat.ble_eq] at hr
      split at hr
      ·rename_i hb
       obtain ⟨hb1,hb2⟩:=hb
       have hb2:off+m≤n:=hb2
       simp only [Option.some.injEq] at hr; subst hr
       obtain ⟨u,h1,h2⟩:=yI hE hx
       obtain ⟨v,h3,h4⟩:=yI hE ha
       obtain ⟨b,C,h5,rfl⟩:=R.mkNil h2
       obtain ⟨b',C',ob,Rr,hV,hh,hO⟩:=hH.has id _ ho
       rw [h5] at hV
       simp only [Option.some.injEq,Prod.mk.injEq] at hV
       obtain ⟨rfl,rfl⟩:=hV
       obtain ⟨c,rfl,hO⟩:=ro_cells hO
       obtain ⟨k1,k2⟩:=wY hl h4
       obtain ⟨by',z,hI,_⟩:=uP hT hm
       have hlen:=k1.length
       obtain ⟨_,c',e1,_,e2,_⟩:=hO
       have e1:c=c':=by simpa using congrArg (fun o=>match o with|Obj.cells a _ _=>a.toList|_=>[]) e1
       subst e1
       have he:=ev_storeG (P:=P) (w0:=w0) (L:=h+fr) (Rr:=Rr+fr) hI h1 h3 O (by rw [hlen,hb1]) k2 (by rw [hh,yH]) (by rw [hlen,hb1]; omega)
       refine EV.imp he ?_
       rintro u L' ⟨rfl,rfl⟩ _
       exact ⟨V,_,Val.refl V,(yH _ _ _).symm,R.und,hH.put ho h5 hh (RO.write hO k1 k2 (by rw [hb1]; exact hb2))⟩
      ·cases hr
    ·cases hr
 ·cases hr
theorem ev_makeS {t e:TypeId} (hu:P.underlying t=some (.slice e)) {sz by':Nat} {z:Value} (hi:Inf P e sz by' z) {x y:Operand} {l n:Nat} {k1 k2:IntKind} {L:Hp}
  (hx:ev g x=some (.int k1 (l:Int))) (hy:ev g y=some (.int k2 (n:Int))) (hz:z.cells.size=sz) (hln:l≤n) (hb:by'*n≤281474976710656) (hn:n<9223372036854775808) :
  EV P w0 L g (.makeSlice t x y) fun u L'=>∃ b,u=.slice (some ⟨b,0,none⟩) l n∧L'=pt b (.cells (List.replicate n z.cells.toList).flatten.toArray e (0,0))+L:=by
 intro o a w n' ho ha hst
 obtain ⟨i,h1,h2,h3,h4⟩:=hi.out
 refine ⟨.slice (some ⟨w.heap.size,0,none⟩) l n,w.alloc (.cells (List.replicate n z.cells.toList).flatten.toArray e),_,.inl ?_,⟨_,rfl,rfl⟩,hst.alloc _⟩
 have hw:IntKind.i64.wrap (n:Int)=(n:Int):=IntWalk.i64_in _ ⟨by omega,by omega⟩
 have hwl:IntKind.i64.wrap (l:Int)=(l:Int):=IntWalk.i64_in _ ⟨by omega,by omega⟩
 have hnew:∀ c:Array Value,(newRow e c).run P w=.ok ⟨w.heap.size,0,none⟩ (w.alloc (.cells c e)):=fun _=>rfl
 have hbi:¬ ((i.bytes:Int)*(n:Int) > 2 ^ 48):=by
  rw [h3]
  have:((by'*n:Nat):Int)≤281474976710656:=by omega
  rw [Int.natCast_mul] at this
  omega
 have hcells:∀ zz:Array Value,(n*i.size≠0→zz=z.cells)→((Array.range (n*i.size)).map (zz[· % zz.size]!))=(List.replicate n z.cells.toList).flatten.toArray:=by
  intro zz hzz
  by_cases h0:n*i.size=0
  ·rw [h0]
   have:(List.replicate n z.cells.toList).flatten=[]:=by
    apply List.eq_nil_of_length_eq_zero
    simp [hz,← h2,h0]
   rw [this]; have er:Array.range 0=#[]:=rfl
   rw [er]; simp
  ·rw [hzz h0,← zeros_eq z.cells n i.size (by rw [hz,h2])]
 unfold execOp
 have hc1:((l:Int)<0)=False:=by simp
 have hc2:((l:Int) > (n:Int))=False:=by simp; omega
 have hc3:((n:Int)<0)=False:=by simp
 simp only [ho,ha.ev hx,ha.ev hy,Instr.makeSlice,Sem.run_bind,run_underlying hu,Result.andThen_ok,asInt,asIntOf,Sem.run_pure,typeInfo,run_program,h1,hw,hwl]
 simp only [hc1,hc2,hc3,hbi,decide_false,Bool.or_self,Bool.false_eq_true,if_false,Sem.run_bind,Int.toNat_natCast,run_askRoom,sizeOf,typeInfo,run_program,h1,Sem.run_pure,Result.andThen_ok]
 by_cases h0:n*i.size=0
 ·simp only [h0,if_true,Sem.run_pure,Result.andThen_ok,Sem.run_bind]
  have:=hcells #[] (fun h=>absurd h0 h)
  rw [h0] at this
  simp only [this,hnew,Result.andThen_ok,Sem.run_pure]
 ·have:=hcells z.cells (fun _=>rfl)
  simp only [h0,if_false,zeroValue,typeInfo,Sem.run_bind,run_program,h1,h4,Sem.run_pure,Result.andThen_ok,this,hnew]
theorem flat_one (v:Value):∀ n,(List.replicate n [v]).flatten=List.replicate n v
 | 0=>rfl
 | n+1=>by rw [List.replicate_succ,List.flatten_cons,flat_one v n,List.replicate_succ]; rfl
def zblkA (e n:Nat):List AV→AO
 | [z]=>bif and (not (Nat.beq (enc z) 255)) (Nat.ble n 5000) then .c e n true (.pk (repN (enc z) n)) else .c e n true (.tr (some z) .e)
 | zs=>blkA e (repA zs n)
theorem zblk_ok {e n:Nat} {zs:List AV} {us:List Value} (hl:RL V zs us) (h1:yW us) {C:Nat}:∀ V',V≤V'→RO P V' C (zblkA e n zs) (.cells (List.replicate n us).flatten.toArray e (0,0)):=fun V' hle=>by
 have hall:RO P V' C (blkA e (repA zs n)) (.cells (List.replicate n us).flatten.toArray e (0,0)):=blk_ok (repA_ok hl n) (uQ h1 n) V' hle
 unfold zblkA
 split
 ·rename_i z
  obtain ⟨v,vs,rfl,h2,h3⟩:=RL.cons.1 hl
  rw [RL.nil.1 h3]
  rw [flat_one]
  rw [cond_eq_ite]
  split
  ·rename_i hc
   simp only [Bool.and_eq_true,Bool.not_eq_true'] at hc
   have hne:enc z≠255:=fun e=>by rw [e] at hc; exact absurd hc.1 (by decide)
   exact RO.reps ((enc_wr z).resolve_left hne) (h2.mono hle z) (h1 v (by simp))
  ·exact RO.lazy (h2.mono hle z) (h1 v (by simp))
 ·exact hall
def makeSA (TT:Nat→Option TI) (H:T AO) (E:En) (nx t:Nat) (x y:Operand):Option Eff:=match jF TT t with
 | some (.slice e)=>match yV E x with
  | none=>none
  | some a=>match natA a with
   | none=>none
   | some l=>match yV E y with
    | none=>none
    | some b=>match natA b with
     | none=>none
     | some n=>match zerT TT e with
      | none=>none
      | some z=>match uE z with
       | none=>none
       | some zs=>match bytT TT e with
        | none=>none
        | some by'=>bif and (Nat.ble l n) (and (Nat.ble (Nat.mul by' n) 281474976710656) (Nat.blt n 9223372036854775808)) then
          some (.sl nx 0 l n true,H.put (zblkA e n zs) nx,Nat.succ nx) else none
 | _=>none
theorem makeS_ok (hT:TOk P TT) (hE:RE V E g) (hH:RH P V H nx h) {t:Nat} {x y:Operand} {r:Eff} (hr:makeSA TT H E nx t x y=some r):EOk P w0 V h fr g (.makeSlice t x y) r:=by
 unfold makeSA at hr
 split at hr
 ·rename_i e hu
  split at hr
  ·cases hr
  ·rename_i a ha
   split at hr
   ·cases hr
   ·rename_i l hl
    split at hr
    ·cases hr
    ·rename_i b hb
     split at hr
     ·cases hr
     ·rename_i n hn
      split at hr
      ·cases hr
      ·rename_i z hz
       split at hr
       ·cases hr
       ·rename_i zs hzs
        split at hr
        ·cases hr
        ·rename_i by' hby
         simp only [cond_eq_ite,Bool.and_eq_true,Nat.ble_eq] at hr
         split at hr
         ·rename_i hc
          obtain ⟨c1,c2,c3⟩:=hc
          rw [kU,decide_eq_true_eq] at c3
          simp only [Option.some.injEq] at hr; subst hr
          obtain ⟨u,h1,h2⟩:=yI hE ha
          obtain ⟨k1,rfl⟩:=natA_ok hl h2
          obtain ⟨v,h3,h4⟩:=yI hE hb
          obtain ⟨k2,rfl⟩:=natA_ok hn h4
          obtain ⟨m,by2,zv,hm,hb2,hI,hcs,hR⟩:=zer_ok hT hz
          have e1:by2=by':=by rw [hb2] at hby; simpa using hby
          subst e1
          obtain ⟨hzc,hz1⟩:=wY hzs (hR V)
          have he:=ev_makeS (P:=P) (w0:=w0) (L:=h+fr) (yP hT hu) hI h1 h3 hcs c1 c2 c3
          refine new_ok hH (C:=n) (mk:=fun b=>.slice (some ⟨b,0,none⟩) l n) (ob:=.cells (List.replicate n zv.cells.toList).flatten.toArray e (0,0)) he (zblk_ok hzc hz1) (fun b=>?_)
          unfold R; exact ⟨b,n,Val.set_self _ _ _ _,c1,rfl⟩
         ·cases hr
 ·cases hr
end
end
end Ab
namespace Ab
noncomputable section
def bytesA :Nat→Nat→List AV
 | 0,_=>[]
 | n+1,k=>.i .u8 (Nat.mod k 256)::bytesA n (Nat.div k 256)
def rdA (H:T AO) (sz:Nat) (n:Nat):AV→Option (List AV)
 | .sl id off len _ _=>bif Nat.ble n len then (match H.get id with
  | none=>none
  | some o=>readN o (Nat.mul n sz) off) else none
 | .es=>bif Nat.beq n 0 then some [] else none
 | .ns=>bif Nat.beq n 0 then some [] else none
 | .s len k=>bif and (Nat.beq sz 1) (Nat.ble n len) then some (bytesA n k) else none
 | _=>none
def lenN :AV→Option Nat
 | .sl _ _ len _ _=>some len
 | .es=>some 0
 | .ns=>some 0
 | .s len _=>some len
 | _=>none
section
variable {P:Program} {TT:Nat→Option TI} {V:Val} {E:En} {g:Env} {w0:World} {H:T AO} {nx:Nat} {h fr:Hp}
theorem bytesA_ok :∀ (n k:Nat),RL V (bytesA n k) ((bytesOf n k).map fun b=>Value.int .u8 b.toNat)
 | 0,k=>RL.nil.2 O
 | n+1,k=>by
  have e:bytesOf (n+1) k=UInt8.ofNat k::bytesOf n (k / 256):=by
   unfold bytesOf
   rw [List.range_succ_eq_map,List.map_cons,List.map_map]
   congr 1
   ·simp
   ·apply List.map_congr_left
    intro i hi
    simp only [Function.comp,Nat.succ_eq_add_one]
    rw [Nat.pow_succ,Nat.mul_comm (256 ^ i),← Nat.div_div_eq_div_mul]
  rw [e,List.map_cons]
  refine RL.mk ?_ (bytesA_ok n (k / 256))
  have hlt:k % 256<256:=Nat.mod_lt _ (by omega)
  exact R.mkInt' (k:=.u8) (u:=k % 256) (by simpa only [pwK] using hlt) (by rw [kW (k:=.u8) (by simpa only [hfK] using hlt)]; simp)
theorem lenN_ok {a:AV} {m:Nat} {v:Value} (hl:lenN a=some m) (hr:R V a v) (w:World):(Builtin.lenOf v).run P w=.ok m w:=by
 cases a<;>simp only [lenN,reduceCtorEq,Option.some.injEq] at hl<;>unfold R at hr<;>subst hl
 ·obtain ⟨_,rfl⟩:=hr; show Result.ok _ _=_; rw [size_str]
 ·obtain ⟨b,c,_,_,rfl⟩:=hr; rfl
 ·obtain ⟨_,_,rfl⟩:=hr; rfl
 ·subst hr; rfl
theorem rdA_ok (hH:RH P V H nx h) {sz n:Nat} {a:AV} {l:List AV} {v:Value} (hl:rdA H sz n a=some l) (hr:R V a v) :
  l.length=n*sz∧∃ us,RL V l us∧yW us∧∀ w,St w0 w (h+fr)→(Builtin.firstCells sz n v).run P w=.ok us.toArray w:=by
 cases a<;>simp only [rdA,reduceCtorEq] at hl<;>unfold R at hr
 ·rename_i len k
  simp only [cond_eq_ite,Bool.and_eq_true,Nat.beq_eq,Nat.ble_eq] at hl
  split at hl
  ·rename_i hb
   obtain ⟨rfl,hb2⟩:=hb
   simp only [Option.some.injEq] at hl; subst hl
   obtain ⟨hk,rfl⟩:=hr
   refine ⟨?_,_,bytesA_ok n k,fun u hu=>?_,fun w _=>?_⟩
   ·have:∀ n k,(bytesA n k).length=n:=by
     intro n
     induction n with
     | zero=>intro k; rfl
     | succ n ih=>intro k; simp [bytesA,ih]
    rw [this,Nat.mul_one]
   ·obtain ⟨_,_,rfl⟩:=List.mem_map.1 hu; rfl
   ·have hb3:(bytesOf len k).take n=bytesOf n k:=by
     unfold bytesOf
     rw [← List.map_take,List.take_range,Nat.min_eq_left hb2]
    have e1:((ByteArray.mk (bytesOf len k).toArray).extract 0 n).data=(bytesOf n k).toArray:=by
     rw [ByteArray.data_extract]
     apply Array.ext'
     simp [hb3]
    simp only [Builtin.firstCells,Sem.run_pure,e1]
    congr 1
    apply Array.ext'
    simp
  ·cases hl
 ·rename_i id off len cap kn
  simp only [cond_eq_ite,Nat.ble_eq] at hl
  split at hl
  ·split at hl
   ·cases hl
   ·rename_i o ho
    obtain ⟨b,C,hV,hle,rfl⟩:=hr
    obtain ⟨b',C',ob,Rr,hV',hh,hO⟩:=hH.has id _ ho
    rw [hV] at hV'
    simp only [Option.some.injEq,Prod.mk.injEq] at hV'
    obtain ⟨rfl,rfl⟩:=hV'
    cases o with
    | mp es clock=>cases hl
    | si _ _ _=>cases hl
    | c e nn kk s =>
     obtain ⟨c,rfl,hO⟩:=ro_cells hO
     obtain ⟨r1,r2,r3,r4,r5⟩:=hO.readN hl
     have r1:off+n*sz≤nn:=r1
     refine ⟨r3,_,r4,r5,fun w hst=>?_⟩
     have hat:w.heap[b]?=some (.cells c.toArray e (0,0)):=by rw [hh,yH] at hst; exact hst.sat.left.pt.2
     refine run_firstCells_some w sz n ⟨b,off,none⟩ len _ _ (by rw [List.length_take,List.length_drop]; show min (n*sz) _=_; omega) fun j u hu=>?_
     rw [List.getElem?_take] at hu
     split at hu
     ·rw [List.getElem?_drop] at hu
      rw [uK]
      have:=(List.getElem?_eq_some_iff.1 hu).1
      simp [World.cell?,hat,hu]
     ·cases hu
  ·cases hl
 ·simp only [cond_eq_ite,Nat.beq_eq] at hl
  split at hl
  ·rename_i hn
   subst hn
   simp only [Option.some.injEq] at hl; subst hl
   obtain ⟨a',c',rfl⟩:=hr
   exact ⟨by simp,[],RL.nil.2 O,(fun u hu=>by cases hu),fun w _=>by simp [Builtin.firstCells,loadCells,loadCellsFrom]⟩
  ·cases hl
 ·simp only [cond_eq_ite,Nat.beq_eq] at hl
  split at hl
  ·rename_i hn
   subst hn
   simp only [Option.some.injEq] at hl; subst hl
   subst hr
   exact ⟨by simp,[],RL.nil.2 O,(fun u hu=>by cases hu),fun w _=>by simp [Builtin.firstCells]⟩
  ·cases hl
def srcA (TT:Nat→Option TI) (H:T AO) (sz:Nat) (t2:Nat) (a:AV):Option (Nat × List AV):=match jF TT t2 with
 | some (.slice _)=>(match lenN a with
  | none=>none
  | some m=>match rdA H sz m a with
   | none=>none
   | some l=>some (m,l))
 | some .string=>(match lenN a with
  | none=>none
  | some m=>match rdA H sz m a with
   | none=>none
   | some l=>some (m,l))
 | _=>none
theorem srcA_ok (hT:TOk P TT) (hH:RH P V H nx h) {sz t2 m:Nat} {a:AV} {l:List AV} {v:Value} (hs:srcA TT H sz t2 a=some (m,l)) (hr:R V a v) :
  l.length=m*sz∧∃ us,RL V l us∧yW us∧∀ w,St w0 w (h+fr)→Src P sz t2 v m us w:=by
 have key:(∃ e',P.underlying t2=some (.slice e'))∨P.underlying t2=some .string→(match lenN a with|none=>none|some m=>match rdA H sz m a with|none=>none|some l=>some (m,l))=some (m,l) →
   l.length=m*sz∧∃ us,RL V l us∧yW us∧∀ w,St w0 w (h+fr)→Src P sz t2 v m us w:=by
  intro hk hs
  split at hs
  ·cases hs
  ·rename_i m' hm
   split at hs
   ·cases hs
   ·rename_i l' hl
    simp only [Option.some.injEq,Prod.mk.injEq] at hs
    obtain ⟨rfl,rfl⟩:=hs
    obtain ⟨h1,us,h2,h3,h4⟩:=rdA_ok (P:=P) (w0:=w0) (fr:=fr) hH hl hr
    exact ⟨h1,us,h2,h3,fun w hst=>⟨hk,fun w'=>lenN_ok hm hr w',h4 w hst,h4 w.drew hst.drew,by rw [h2.length,h1],h3⟩⟩
 unfold srcA at hs
 split at hs
 ·rename_i e hu; exact key (.inl ⟨e,yP hT hu⟩) hs
 ·rename_i hu; exact key (.inr (yP hT hu)) hs
 ·cases hs
def Srcz (P:Program) (e sz:Nat) (tx:TypeId) (x:Value) (n:Nat) (news:List Value) (w:World):Prop :=
 Src P sz tx x n news w∨∃ d z bts,P.underlying tx=some (.int d)∧x=.int .i64 (n:Int)∧IntKind.i64.wrap (n:Int)=(n:Int)∧Inf P e sz bts z∧news=(Builtin.zeroCells z.cells n).toList∧n*bts≤281474976710656∧yW z.cells.toList∧z.cells.size=sz
theorem Srcz.newsLen {e sz:Nat} {tx:TypeId} {x:Value} {n:Nat} {news:List Value} {w:World} (h:Srcz P e sz tx x n news w):news.length=n*sz:=by
 rcases h with h|⟨d,z,bts,_,_,_,_,rfl,_,_,rfl⟩
 ·exact h.newsLen
 ·rw [vE]; simp
theorem Srcz.one {e sz:Nat} {tx:TypeId} {x:Value} {n:Nat} {news:List Value} {w:World} (h:Srcz P e sz tx x n news w):yW news:=by
 rcases h with h|⟨d,z,bts,_,_,_,_,rfl,_,h1,rfl⟩
 ·exact h.one
 ·rw [vE]; exact uQ h1 n
def srcZ (TT:Nat→Option TI) (H:T AO) (e sz:Nat) (t2:Nat) (a:AV):Option (Nat × List AV):=match jF TT t2 with
 | some (.int _)=>match a with
  | .i .i64 u=>match zerT TT e with
   | none=>none
   | some z=>match uE z with
    | none=>none
    | some zs=>match bytT TT e with
     | none=>none
     | some by'=>bif and (and (Nat.blt u 140737488355328) (Nat.ble (Nat.mul u by') 140737488355328)) (Nat.beq zs.length sz) then some (u,repA zs u) else none
  | _=>none
 | _=>srcA TT H sz t2 a
theorem srcZ_ok (hT:TOk P TT) (hH:RH P V H nx h) {e sz t2 m:Nat} {a:AV} {l:List AV} {v:Value} (hs:srcZ TT H e sz t2 a=some (m,l)) (hr:R V a v) (hsz:vF TT e=some sz) :
  l.length=m*sz∧∃ us,RL V l us∧yW us∧∀ w,St w0 w (h+fr)→Srcz P e sz t2 v m us w:=by
 unfold srcZ at hs
 split at hs
 ·rename_i d hd
  split at hs
  ·rename_i u
   split at hs
   ·cases hs
   ·rename_i z hz
    split at hs
    ·cases hs
    ·rename_i zs hzs
     split at hs
     ·cases hs
     ·rename_i by' hby
      rw [cond_eq_ite] at hs
      split at hs
      ·rename_i hc
       simp only [Bool.and_eq_true,Nat.beq_eq,Nat.ble_eq,kU,decide_eq_true_eq] at hc
       obtain ⟨⟨hc1,hc2⟩,hc3⟩:=hc
       have hc2:u*by'≤140737488355328:=hc2
       simp only [Option.some.injEq,Prod.mk.injEq] at hs
       obtain ⟨rfl,rfl⟩:=hs
       obtain ⟨m',b',zv,hm,hb,hI,hcs,hR⟩:=zer_ok hT hz
       rw [hsz] at hm; simp only [Option.some.injEq] at hm; subst hm
       rw [hby] at hb; simp only [Option.some.injEq] at hb; subst hb
       obtain ⟨hzc,hone⟩:=wY hzs (hR V)
       have hw:IntKind.i64.wrap (u:Int)=(u:Int):=kW (k:=.i64) (by simp only [hfK]; omega)
       obtain ⟨_,rfl⟩:=hr.int
       refine ⟨by rw [repA_length,hc3],_,repA_ok hzc u,?_,fun w _=>.inr ⟨d,zv,by',yP hT hd,by rw [hw],hw,hI,by rw [vE],by omega,hone,hcs⟩⟩
       exact uQ hone u
      ·cases hs
  ·cases hs
 ·obtain ⟨h1,us,h2,h3,h4⟩:=srcA_ok (w0:=w0) (fr:=fr) hT hH hs hr
  exact ⟨h1,us,h2,h3,fun w hst=>.inl (h4 w hst)⟩
theorem wz :IntKind.i64.wrap 0=0:=by decide
theorem zFacts {e sz bts n:Nat} {i:TypeInfo} {z:Value} (hi:P.info? e=some i) (hI:Inf P e sz bts z) (hb:n*bts≤281474976710656) :
  i.bytes=bts∧i.size=sz∧¬ (281474976710656<(n:Int)*(i.bytes:Int))∧¬ ((n:Int)<0)∧i.zero=some z:=by
 obtain ⟨i',j1,j2,j3,j4⟩:=hI.out
 rw [hi] at j1; simp only [Option.some.injEq] at j1; subst j1
 have h3:(n:Int)*(i.bytes:Int)=((n*bts:Nat):Int):=by rw [j3]; simp
 exact ⟨j3,j2,by rw [h3]; omega,by omega,j4⟩
theorem zNews {n sz:Nat} {z:Value} {news:List Value} {i:TypeInfo} (hz:news=(Builtin.zeroCells z.cells n).toList) (hz1:z.cells.size=sz) (hs:i.size=sz) :
  (n*i.size=0∧news=[])∨(n*i.size≠0∧Builtin.zeroCells z.cells n=news.toArray):=by
 by_cases h0:n*i.size=0
 ·refine .inl ⟨h0,List.eq_nil_of_length_eq_zero ?_⟩
  rw [hz,vE]; simp [hz1,← hs,h0]
 ·exact .inr ⟨h0,by rw [hz]⟩
theorem run_room (t tx ty e:TypeId) (i:TypeInfo) (ht:P.underlying t=some (.slice e)) (hi:P.info? e=some i) {b off sLen sCap:Nat} {x:Value} {n:Nat} {news:List Value} {w:World} (hs:Srcz P e i.size tx x n news w)
  (hroom:sLen+n≤sCap) {c:List Value} {e':TypeId} {Rr:Hp} (hst:St w0 w (pt b (.cells c.toArray e' (0,0))+Rr)) (hc:off+sLen*i.size+news.length≤c.length) :
  ∃ w',(Builtin.append_ #[t,tx] ty #[.slice (some ⟨b,off,none⟩) sLen sCap,x]).run P w=.ok (.slice (some ⟨b,off,none⟩) (sLen+n) sCap) w'∧St w0 w' (pt b (.cells (kX (off+sLen*i.size) news c).toArray e' (0,0))+Rr):=by
 obtain ⟨w',e1,e2⟩:=vO (P:=P) (off:=off+sLen*i.size) news 0 c w hst hs.one (by omega)
 refine ⟨w',?_,e2⟩
 rcases hs with hs|⟨d,z,bts,hd,rfl,hw,hI,hz,hb,_,hz1⟩
 ·rcases hs.kind with ⟨e',hk⟩|hk<;>simp [Builtin.append_,run_underlying ht,run_underlying hk,sizeOf,typeInfo,hi,hs.len,hroom,hs.cells,uK,e1]
 ·obtain ⟨h1,h2,h3,h4,h5⟩:=zFacts hi hI hb
  rcases zNews hz hz1 h2 with ⟨h6,rfl⟩|⟨h6,h8⟩
  ·simp [Builtin.append_,run_underlying ht,run_underlying hd,sizeOf,typeInfo,zeroValue,hi,asInt,asIntOf,wz,hw,h3,h4,hroom,h5,h6,uK,e1]
  ·simp [Builtin.append_,run_underlying ht,run_underlying hd,sizeOf,typeInfo,zeroValue,hi,asInt,asIntOf,wz,hw,h3,h4,hroom,h5,h6,h8,uK,e1]
theorem run_room0 (t tx ty e:TypeId) (i:TypeInfo) (ht:P.underlying t=some (.slice e)) (hi:P.info? e=some i) {ad:Option Addr} {sLen sCap:Nat} {x:Value} {news:List Value} {w:World} (hs:Srcz P e i.size tx x 0 news w)
  (hroom:sLen≤sCap):(Builtin.append_ #[t,tx] ty #[.slice ad sLen sCap,x]).run P w=.ok (.slice ad sLen sCap) w:=by
 have hn:news=[]:=List.eq_nil_of_length_eq_zero (by rw [hs.newsLen]; simp)
 have hs0:∀ a:Addr,(storeCells a [] 0).run P w=.ok () w:=fun a=>by simp [storeCells]
 rcases hs with hs|⟨d,z,bts,hd,rfl,hw,hI,hz,hb,_,hz1⟩
 ·have hc:=hs.cells
  rw [hn] at hc
  rcases hs.kind with ⟨e',hk⟩|hk<;>cases ad<;>simp [Builtin.append_,run_underlying ht,run_underlying hk,sizeOf,typeInfo,hi,hs.len,hroom,hc,hs0]
 ·cases ad<;>simp [Builtin.append_,run_underlying ht,run_underlying hd,sizeOf,typeInfo,hi,asInt,asIntOf,wz,hroom,hs0]
theorem run_grow_z (w:World) (t tx ty e:TypeId) (i:TypeInfo) (z:Value) (ht:P.underlying t=some (.slice e)) (hi:P.info? e=some i) (hz:i.zero=some z) (base:Option Addr) (sLen sCap:Nat) (olds:List Value)
  (hold:(Builtin.firstCells i.size sLen (.slice base sLen sCap)).run P w.drew=.ok olds.toArray w.drew) (x:Value) (n:Nat) (news:List Value) (hs:Srcz P e i.size tx x n news w)
  (hg:sCap<sLen+n) (h63:((sLen+n:Nat):Int)≤9223372036854775807) (hfit:Builtin.nextslicecap (sLen+n) sCap*i.bytes≤281474976710656) :
  (Builtin.append_ #[t,tx] ty #[.slice base sLen sCap,x]).run P w =
   .ok (.slice (some ⟨w.heap.size,0,none⟩) (sLen+n) (grownCap w (sLen+n) sCap e))
    (w.drew.alloc (.cells ((olds++news).toArray++Builtin.zeroCells z.cells (grownCap w (sLen+n) sCap e - (sLen+n))) e)):=by
 rcases hs with hs|⟨d,z',bts,hd,rfl,hw,hI,hz',hb,_,hz1⟩
 ·exact run_append_grow_src (P:=P) w t tx ty e i z ht hi hz base sLen sCap olds hold x n news hs hg h63 hfit
 ·have hn:¬ (sLen+n≤sCap):=by omega
  have h63':¬ (9223372036854775807<((sLen:Int)+(n:Int))):=by omega
  have h48':¬ (281474976710656<Builtin.nextslicecap (sLen+n) sCap*i.bytes):=by omega
  obtain ⟨h1,h2,h3,h4,h5⟩:=zFacts hi hI hb
  have hzz:z'=z:=by rw [hz] at h5; exact (Option.some.inj h5).symm
  subst hzz
  rcases zNews hz' hz1 h2 with ⟨h6,rfl⟩|⟨h6,h8⟩
  ·simp [Builtin.append_,run_underlying ht,run_underlying hd,sizeOf,typeInfo,zeroValue,hi,hz,asInt,asIntOf,wz,hw,h3,h4,h6,hn,h63',h48',Question.forced,hold,newRow,grownCap]
  ·simp [Builtin.append_,run_underlying ht,run_underlying hd,sizeOf,typeInfo,zeroValue,hi,hz,asInt,asIntOf,wz,hw,h3,h4,h6,h8,hn,h63',h48',Question.forced,hold,newRow,grownCap]
   congr 2
   apply Array.ext'
   simp [List.append_assoc,h8]
theorem run_app {t tx:TypeId} {x y:Operand} {v u:Value} (hx:ev g x=some v) (hy:ev g y=some u) (o:Oper) (ho:o.op=.call { callee:=.builtin .append,args:=#[x,y],argTypes:=#[t,tx] }) (a:Act) (n:Nat) (ha:jE n a g) :
  execOp a.eval o=(do pure (.value (← Builtin.append_ #[t,tx] o.type #[v,u]))):=by
 unfold execOp
 simp only [ho,resolve,invoke,builtin,ha.ev hx,ha.ev hy,List.map_toArray,List.map_cons,List.map_nil,pure_bind]
def CT.ext (n k:Nat) (l:List AV):CT→CT
 | .li cs=>cellsOf n ((match takeA k cs with|some r=>r|none=>[])++l)
 | .tr d t=>.tr d (writeT l t k)
 | s=>s.write l k
theorem CT.ext_ok {s:CT} {n0 n k:Nat} {l:List AV} (hw:s.wf n0) (hk:k≤n0) (hn:n=k+l.length):(s.ext n k l).wf n∧∀ j v,j<n→(s.ext n k l).get j=some v→(k≤j∧l[j - k]?=some v)∨(j<k∧s.get j=some v):=by
 cases s with
 | li cs =>
  simp only [CT.ext]
  have hcs:cs.length=n0:=hw
  have ht:∃ r,takeA k cs=some r:=by
   have:∀ (k:Nat) (cs:List AV),k≤cs.length→∃ r,takeA k cs=some r:=by
    intro k
    induction k with
    | zero=>intro cs _; exact ⟨_,rfl⟩
    | succ k ih =>
     intro cs hc
     cases cs with
     | nil=>simp at hc
     | cons c cs =>
      obtain ⟨r,hr⟩:=ih cs (by simpa using hc)
      exact ⟨c::r,by simp only [takeA,hr]⟩
   exact this k cs (by omega)
  obtain ⟨r,hr⟩:=ht
  rw [hr]
  obtain ⟨h1,h2⟩:=takeA_eq hr
  obtain ⟨h3,h4⟩:=cellsOf_get (n:=n) (l:=r++l) (by rw [List.length_append,h1,hn])
  refine ⟨h3,fun j v hj hv=>?_⟩
  have h5:=h4 j v hj hv
  by_cases hjk:j<k
  ·rw [List.getElem?_append_left (by omega)] at h5
   exact .inr ⟨hjk,by simp only [CT.get,nthA_eq]; rw [h2 j hjk]; exact h5⟩
  ·rw [List.getElem?_append_right (by omega),h1] at h5
   exact .inl ⟨by omega,h5⟩
 | tr d t =>
  refine ⟨trivial,fun j v hj hv=>?_⟩
  simp only [CT.ext,CT.get,get_writeT] at hv
  by_cases hjk:j<k
  ·rw [if_neg (by omega)] at hv
   exact .inr ⟨hjk,hv⟩
  ·rw [if_pos (by omega),List.getElem?_eq_getElem (by omega)] at hv
   exact .inl ⟨by omega,by rw [List.getElem?_eq_getElem (by omega)]; exact hv⟩
 | pk w =>
  refine ⟨by simp only [CT.ext,CT.write]; split<;>trivial,fun j v hj hv=>?_⟩
  rcases CT.get_write (s:=.pk w) hv with ⟨h1,h2⟩|⟨h1,h2⟩
  ·exact .inl ⟨h1.1,h2⟩
  ·exact .inr ⟨by omega,h2⟩
 | mx w t =>
  refine ⟨trivial,fun j v hj hv=>?_⟩
  rcases CT.get_write (s:=.mx w t) hv with ⟨h1,h2⟩|⟨h1,h2⟩
  ·exact .inl ⟨h1.1,h2⟩
  ·exact .inr ⟨by omega,h2⟩
def appA (TT:Nat→Option TI) (H:T AO) (nx:Nat) (e sz:Nat) (m:Nat) (l:List AV) (a:AV):Option Eff:=bif Nat.beq m 0 then (match a with
  | .ns=>some (a,H,nx)
  | .es=>some (a,H,nx)
  | .sl _ _ _ _ _=>some (a,H,nx)
  | _=>none) else match bytT TT e with
 | none=>none
 | some by'=>match a with
  | .ns=>bif Nat.ble (Nat.mul m by') 140737488355328 then some (.sl nx 0 m 0 false,H.put (.c e (Nat.mul m sz) false (cellsOf (Nat.mul m sz) l)) nx,Nat.succ nx) else none
  | .sl id off len cap kn=>match H.get id with
   | some (.c e' n kk s) =>
    let q:=Nat.add len m
    bif kn then
     bif Nat.ble q cap then
      bif Nat.ble (Nat.add off (Nat.mul q sz)) n then some (.sl id off q cap true,H.put (.c e' n kk (s.write l (Nat.add off (Nat.mul len sz)))) id,nx) else none
     else match readN (.c e' n kk s) (Nat.mul len sz) off with
      | none=>none
      | some old=>bif Nat.ble (Nat.mul q by') 140737488355328 then some (.sl nx 0 q 0 false,H.put (.c e (Nat.mul q sz) false (cellsOf (Nat.mul q sz) (old++l))) nx,Nat.succ nx) else none
    else bif and (and (Nat.beq off (Nat.mul cap sz)) (Nat.beq e e')) (not kk) then
     bif Nat.ble (Nat.add off (Nat.mul q sz)) n then some (.sl id off q cap false,H.put (.c e' n kk (s.write l (Nat.add off (Nat.mul len sz)))) id,nx)
     else bif and (and (Nat.beq off 0) (Nat.beq cap 0)) (and (Nat.ble (Nat.mul len sz) n) (Nat.ble (Nat.mul q by') 140737488355328)) then
      some (.sl nx 0 q 0 false,(H.del id).put (.c e (Nat.mul q sz) false (s.ext (Nat.mul q sz) (Nat.mul len sz) l)) nx,Nat.succ nx) else none
    else none
   | _=>none
  | _=>none
theorem zeros_one {z:Value} (h:yW z.cells.toList) (m:Nat):yW (Builtin.zeroCells z.cells m).toList:=by
 rw [vE]; exact uQ h m
theorem zeros_len (z:Value) (m:Nat):(Builtin.zeroCells z.cells m).toList.length=m*z.cells.size:=by rw [vE]; simp
end
end
end Ab
namespace Ab
noncomputable section
section
variable {P:Program} {TT:Nat→Option TI} {V:Val} {E:En} {g:Env} {w0:World} {H:T AO} {nx:Nat} {h fr:Hp}
theorem grow_obj {e sz C q:Nat} {z:Value} {news:List Value} (hz:z.cells.size=sz) (hq:news.length=q*sz) (hC:q≤C) :
  (news.toArray++Builtin.zeroCells z.cells (C - q))=(news++(Builtin.zeroCells z.cells (C - q)).toList).toArray∧news.length+(Builtin.zeroCells z.cells (C - q)).toList.length=C*sz:=by
 refine ⟨?_,?_⟩
 ·apply Array.ext'; simp
 ·rw [zeros_len,hq,hz,← Nat.add_mul]; congr 1; omega
theorem app_grow (hT:TOk P TT) (hH:RH P V H nx h) {t tx e sz by' m q:Nat} {l old:List AV} {x y:Operand} {ad:Option Addr} {len cap:Nat} {u:Value} {us os:List Value} (hu:P.underlying t=some (.slice e)) (hs:vF TT e=some sz) (hb:bytT TT e=some by')
  (hx:ev g x=some (.slice ad len cap)) (hy:ev g y=some u) (hsrc:∀ w,St w0 w (h+fr)→Srcz P e sz tx u m us w) (hl:RL V l us) (ho:RL V old os) (h1:yW os) (hol:os.length=len*sz) (hold:∀ w,St w0 w (h+fr)→(Builtin.firstCells sz len (.slice ad len cap)).run P w=.ok os.toArray w)
  (hq:q=len+m) (hg:cap<len+m) (hfit:q*by'≤140737488355328) (hby:0<by') {H':T AO} (hH':RH P V H' nx h) :
  EOk P w0 V h fr g (.call { callee:=.builtin .append,args:=#[x,y],argTypes:=#[t,tx] }) (.sl nx 0 q 0 false,H'.put (.c e (Nat.mul q sz) false (cellsOf (Nat.mul q sz) (old++l))) nx,Nat.succ nx):=by
 intro o a w n ho' ha hst
 obtain ⟨z,hI,hz,hz1⟩:=sizb_ok hT hs hb
 obtain ⟨i,i1,i2,i3,i4⟩:=hI.out
 have hsr:=hsrc w hst
 subst hq
 have hle:len+m≤140737488355328:=Nat.le_trans (Nat.le_mul_of_pos_right _ hby) hfit
 have hsr2:Srcz P e i.size tx u m us w:=by rw [i2]; exact hsr
 have hrun:=run_grow_z (P:=P) w t tx o.type e i z hu i1 i4 ad len cap os (by rw [i2]; exact hold w.drew hst.drew) u m us hsr2 hg (by omega) (by rw [i3]; exact growslice_fits (by omega) hfit)
 have hC:len+m≤grownCap w (len+m) cap e:=grownCap_ge w _ _ _
 obtain ⟨g1,g2⟩:=grow_obj (e:=e) (sz:=sz) (C:=grownCap w (len+m) cap e) (q:=len+m) (z:=z) (news:=os++us) hz (by rw [List.length_append,hol,hsr.newsLen,Nat.add_mul]) hC
 rw [g1] at hrun
 have hall:yW (os++us):=fun v hv=>(List.mem_append.1 hv).elim (h1 v) (hsr.one v)
 have hst':=hst.drew.alloc (.cells ((os++us)++(Builtin.zeroCells z.cells (grownCap w (len+m) cap e - (len+m))).toList).toArray e)
 have hle2:V≤V.set nx w.heap.size (grownCap w (len+m) cap e):=Val.le_set (hH.fresh nx (Nat.le_refl _))
 have hlen:(len+m)*sz=(old++l).length:=by
  have e1:=ho.length; have e2:=hl.length; have e3:=hsr.newsLen
  rw [List.length_append,Nat.add_mul]; omega
 have hO:RO P (V.set nx w.heap.size (grownCap w (len+m) cap e)) (grownCap w (len+m) cap e) (.c e (Nat.mul (len+m) sz) false (cellsOf (Nat.mul (len+m) sz) (old++l)))
   (.cells ((os++us)++(Builtin.zeroCells z.cells (grownCap w (len+m) cap e - (len+m))).toList).toArray e (0,0)) :=
  RO.fresh (RL.append (ho.mono hle2 _) (hl.mono hle2 _)) hall (zeros_one hz1 _) hlen (fun h=>by cases h) (fun _=>by rw [g2]; congr 1; simp [Program.cellsOf,i1,i2])
 obtain ⟨_,k2⟩:=hH'.new ⟨w0,_,fr,hst'⟩ hO
 refine ⟨.slice (some ⟨w.heap.size,0,none⟩) (len+m) (grownCap w (len+m) cap e),_,_,.inl ?_,⟨_,_,hle2,(yH _ _ _).symm,?_,k2⟩,hst'⟩
 ·rw [run_app hx hy o ho' a n ha]
  simp only [Sem.run_bind,hrun,Result.andThen_ok,Sem.run_pure]
 ·unfold R
  refine ⟨w.heap.size,_,Val.set_self _ _ _ _,?_,?_⟩
  ·simp only [cond_false]; omega
  ·simp only [cond_false]; rfl
theorem readN_all {C e n:Nat} {kn:Bool} {s:CT} {c:List Value} (hO:RO P V C (.c e n kn s) (.cells c.toArray e (0,0))):n≤c.length∧(kn=false→c.length=C*P.cellsOf e)∧s.wf n:=by
 obtain ⟨h0,c',h1,h11,h2,h3,h4,h5⟩:=hO
 have h1:c=c':=by simpa using congrArg (fun o=>match o with|Obj.cells a _ _=>a.toList|_=>[]) h1
 subst h1
 exact ⟨h2,h4,h0⟩
theorem RO.ext {C e n k q:Nat} {s:CT} {c:List Value} (hO:RO P V C (.c e n false s) (.cells c.toArray e (0,0))) {l:List AV} {us:List Value} (hl:RL V l us) (h1:yW us) (hk:k≤n) (hq:q=k+l.length) (hb:q≤c.length) :
  RO P V C (.c e q false (s.ext q k l)) (.cells (kX k us c).toArray e (0,0)):=by
 obtain ⟨h0,c',e1,h11,h2,h3,h4,h5⟩:=hO
 have e1:c=c':=by simpa using congrArg (fun o=>match o with|Obj.cells a _ _=>a.toList|_=>[]) e1
 subst e1
 have hlen:=hl.length
 have hs:(kX k us c).length=c.length:=vN _ _ _
 obtain ⟨g1,g2⟩:=CT.ext_ok h0 hk hq
 refine ⟨g1,_,rfl,OneN.splice (n:=n) (by omega) h1 h11 (fun j hj=>by omega),by omega,(fun h=>by cases h),fun h=>by rw [hs]; exact h4 h,fun j v hj hv=>?_⟩
 rw [splice_get us c k j (by omega)]
 rcases g2 j v hj hv with ⟨hj2,hv⟩|⟨hj2,hv⟩
 ·rw [if_pos (by omega)]; exact hl.get hv
 ·rw [if_neg (by omega)]; exact h5 j v (by omega) hv
theorem RO.shorter {C e n k:Nat} {s:CT} {c us:List Value} (hO:RO P V C (.c e n false s) (.cells c.toArray e (0,0))) {l:List AV} {q:Nat} {ws:List Value} (hl:RL V l us) (h1:yW us) (hk:k≤n) (hq:q=k+l.length) {C':Nat} (hws:yW ws) (hC:k+us.length+ws.length=C'*P.cellsOf e) :
  RO P V C' (.c e q false (s.ext q k l)) (.cells (c.take k++us++ws).toArray e (0,0)):=by
 obtain ⟨h0,c',e1,h11,h2,h3,h4,h5⟩:=hO
 have e1:c=c':=by simpa using congrArg (fun o=>match o with|Obj.cells a _ _=>a.toList|_=>[]) e1
 subst e1
 have hlen:=hl.length
 have htk:(c.take k).length=k:=by rw [List.length_take]; omega
 obtain ⟨g1,g2⟩:=CT.ext_ok h0 hk hq
 refine ⟨g1,_,rfl,yW.oneN (fun u hu=>?_) _,?_,(fun h=>by cases h),fun h=>?_,fun j v hj hv=>?_⟩
 ·rcases List.mem_append.1 hu with hu|hu
  ·rcases List.mem_append.1 hu with hu|hu
   ·obtain ⟨j,hj⟩:=List.getElem?_of_mem hu
    rw [List.getElem?_take] at hj
    split at hj
    ·exact h11 j u (by omega) hj
    ·cases hj
   ·exact h1 u hu
  ·exact hws u hu
 ·simp only [List.length_append,htk]; omega
 ·simp only [List.length_append,htk]; exact hC
 ·rcases g2 j v hj hv with ⟨hj2,hv⟩|⟨hj2,hv⟩
  ·have hjl:=(List.getElem?_eq_some_iff.1 hv).1
   rw [List.getElem?_append_left (by simp only [List.length_append,htk]; omega),List.getElem?_append_right (by rw [htk]; omega),htk]
   exact hl.get hv
  ·rw [List.getElem?_append_left (by simp only [List.length_append,htk]; omega),List.getElem?_append_left (by rw [htk]; exact hj2),List.getElem?_take,if_pos hj2]
   exact h5 j v (by omega) hv
theorem append_ok (hT:TOk P TT) (hE:RE V E g) (hH:RH P V H nx h) {t tx e sz m:Nat} {l:List AV} {x y:Operand} {a b:AV} {r:Eff} (hx:yV E x=some a) (hy:yV E y=some b) (hu:jF TT t=some (.slice e)) (hs:vF TT e=some sz) (hsz:0<sz)
  (hby:∀ by',bytT TT e=some by'→0<by') (hsrc:srcZ TT H e sz tx b=some (m,l)) (hr:appA TT H nx e sz m l a=some r):EOk P w0 V h fr g (.call { callee:=.builtin .append,args:=#[x,y],argTypes:=#[t,tx] }) r:=by
 obtain ⟨v,h1,h2⟩:=yI hE hx
 obtain ⟨u,h3,h4⟩:=yI hE hy
 have hu:=yP hT hu
 obtain ⟨hll,us,hl,hl1,hsr⟩:=srcZ_ok (w0:=w0) (fr:=fr) hT hH hsrc h4 hs
 obtain ⟨by0,z0,hI,hz0⟩:=uP hT hs
 have hcell:P.cellsOf e=sz:=by obtain ⟨i,i1,i2,_⟩:=hI.out; simp [Program.cellsOf,i1,i2]
 have hlen:=hl.length
 unfold appA at hr
 rw [cond_eq_ite] at hr
 split at hr
 ·rename_i hm
  have hm:m=0:=by simpa using hm
  subst hm
  have key:∃ ad l c,v=.slice ad l c∧l≤c∧r=(a,H,nx):=by
   split at hr
   ·unfold R at h2; exact ⟨_,_,_,h2,Nat.le_refl _,by simpa using hr.symm⟩
   ·unfold R at h2; obtain ⟨_,_,h2⟩:=h2; exact ⟨_,_,_,h2,Nat.zero_le _,by simpa using hr.symm⟩
   ·unfold R at h2; obtain ⟨_,_,_,hle,h2⟩:=h2; exact ⟨_,_,_,h2,hle,by simpa using hr.symm⟩
   ·cases hr
  obtain ⟨ad,l',c,rfl,hle,rfl⟩:=key
  intro o ac w n ho ha hst
  obtain ⟨i,i1,i2,_⟩:=hI.out
  have hsr2:Srcz P e i.size tx u 0 us w:=by rw [i2]; exact hsr w hst
  have hrun:=run_room0 (P:=P) t tx o.type e i hu i1 (ad:=ad) hsr2 hle
  refine ⟨.slice ad l' c,w,_,.inl ?_,⟨V,h,Val.refl V,rfl,h2,hH⟩,hst⟩
  rw [run_app h1 h3 o ho ac n ha]
  simp only [Sem.run_bind,hrun,Result.andThen_ok,Sem.run_pure]
 ·rename_i hm
  have hm:m≠0:=by simpa using hm
  split at hr
  ·cases hr
  ·rename_i by' hb
   split at hr
   ·rw [cond_eq_ite] at hr
    split at hr
    ·rename_i hfit
     have hfit:m*by'≤140737488355328:=Nat.le_of_ble_eq_true hfit
     simp only [Option.some.injEq] at hr; subst hr
     unfold R at h2; subst h2
     have:=app_grow (P:=P) (w0:=w0) (fr:=fr) (tx:=tx) (m:=m) (q:=m) (old:=[]) (os:=[]) hT hH hu hs hb h1 h3 hsr hl (RL.nil.2 O) (fun u hu=>by cases hu) (by simp) (fun w _=>by simp [Builtin.firstCells]) (by omega) (by omega) hfit (hby _ hb) hH
     simpa using this
    ·cases hr
   ·rename_i id off len cap kn
    split at hr
    ·rename_i e' n kk s hid
     unfold R at h2
     obtain ⟨b0,C,hV,hle,rfl⟩:=h2
     obtain ⟨b',C',ob,Rr,hV',hh,hO⟩:=hH.has id _ hid
     rw [hV] at hV'
     simp only [Option.some.injEq,Prod.mk.injEq] at hV'
     obtain ⟨rfl,rfl⟩:=hV'
     obtain ⟨c,rfl,hO⟩:=ro_cells hO
     obtain ⟨hnc,hcc,hwf⟩:=readN_all hO
     have inplace:∀ (capc:Nat),len+m≤capc→ev g x=some (.slice (some ⟨b0,off,none⟩) len capc)→off+(len+m)*sz≤n→R V (.sl id off (Nat.add len m) cap kn) (.slice (some ⟨b0,off,none⟩) (len+m) capc) →
       EOk P w0 V h fr g (.call { callee:=.builtin .append,args:=#[x,y],argTypes:=#[t,tx] }) (.sl id off (Nat.add len m) cap kn,H.put (.c e' n kk (s.write l (Nat.add off (Nat.mul len sz)))) id,nx):=by
      intro capc hroom hx1 hbd hR
      intro o ac w n' ho ha hst
      obtain ⟨i,i1,i2,_⟩:=hI.out
      have hsr2:Srcz P e i.size tx u m us w:=by rw [i2]; exact hsr w hst
      have hst2:St w0 w (pt b0 (.cells c.toArray e' (0,0))+(Rr+fr)):=by rw [hh,yH] at hst; exact hst
      have hul:us.length=m*sz:=by rw [hlen,hll]
      obtain ⟨w',hrun,hst3⟩:=run_room (P:=P) (off:=off) t tx o.type e i hu i1 hsr2 hroom hst2 (by rw [hul,i2]; rw [Nat.add_mul] at hbd; omega)
      rw [i2] at hst3
      refine ⟨.slice (some ⟨b0,off,none⟩) (len+m) capc,w',_,.inl ?_,⟨V,_,Val.refl V,(yH _ _ _).symm,hR,hH.put hid hV hh (RO.write hO hl hl1 (off:=off+len*sz) (by show off+len*sz+l.length≤n; rw [hll]; rw [Nat.add_mul] at hbd; omega))⟩,hst3⟩
      rw [run_app hx1 h3 o ho ac n' ha]
      simp only [Sem.run_bind,hrun,Result.andThen_ok,Sem.run_pure]
     cases kn with
     | true =>
      simp only [cond_true] at hr hle h1
      rw [cond_eq_ite] at hr
      split at hr
      ·rename_i hq
       have hq:len+m≤cap:=Nat.le_of_ble_eq_true hq
       rw [cond_eq_ite] at hr
       split at hr
       ·rename_i hbd
        have hbd:off+(len+m)*sz≤n:=Nat.le_of_ble_eq_true hbd
        simp only [Option.some.injEq] at hr; subst hr
        exact inplace cap hq h1 hbd (by unfold R; exact ⟨b0,C,hV,by simp only [cond_true]; exact hq,rfl⟩)
       ·cases hr
      ·rename_i hq
       have hq:¬ len+m≤cap:=fun h=>hq (Nat.ble_eq_true_of_le h)
       split at hr
       ·cases hr
       ·rename_i old hold
        rw [cond_eq_ite] at hr
        split at hr
        ·rename_i hfit
         have hfit:(len+m)*by'≤140737488355328:=Nat.le_of_ble_eq_true hfit
         simp only [Option.some.injEq] at hr; subst hr
         obtain ⟨r1,r2,r3,r4,r5⟩:=hO.readN hold
         have r1:off+len*sz≤n:=r1
         have r3:old.length=len*sz:=r3
         refine app_grow (P:=P) (w0:=w0) (fr:=fr) (tx:=tx) (m:=m) (q:=len+m) (old:=old) (os:=(c.drop off).take (Nat.mul len sz)) hT hH hu hs hb h1 h3 hsr hl r4 r5 (by rw [r4.length,r3]) (fun w hst=>?_) O (by omega) hfit (hby _ hb) hH
         have hat:w.heap[b0]?=some (.cells c.toArray e' (0,0)):=by rw [hh,yH] at hst; exact hst.sat.left.pt.2
         refine run_firstCells_some w sz len ⟨b0,off,none⟩ len _ _ (by rw [r4.length,r3]) fun j u hu=>?_
         rw [List.getElem?_take] at hu
         split at hu
         ·rw [List.getElem?_drop] at hu
          rw [uK]
          have:=(List.getElem?_eq_some_iff.1 hu).1
          simp [World.cell?,hat,hu]
         ·cases hu
        ·cases hr
     | false =>
      simp only [cond_false] at hr hle h1
      rw [cond_eq_ite] at hr
      split at hr
      ·rename_i hcond
       simp only [Bool.and_eq_true,Nat.beq_eq,Bool.not_eq_true'] at hcond
       obtain ⟨⟨hoff,hee⟩,hkk⟩:=hcond
       have hoff:off=cap*sz:=hoff
       have hee:e=e':=hee
       subst hee
       have hcl:=hcc hkk
       rw [hcell] at hcl
       rw [cond_eq_ite] at hr
       split at hr
       ·rename_i hbd
        have hbd:off+(len+m)*sz≤n:=Nat.le_of_ble_eq_true hbd
        simp only [Option.some.injEq] at hr; subst hr
        have hroom:len+m≤C - cap:=by
         have h5:(cap+(len+m))*sz≤C*sz:=by rw [Nat.add_mul,← hoff,← hcl]; omega
         have:=Nat.le_of_mul_le_mul_right h5 hsz
         omega
        exact inplace (C - cap) hroom h1 hbd (by unfold R; exact ⟨b0,C,hV,by simp only [cond_false]; exact hroom,rfl⟩)
       ·rename_i hbd
        rw [cond_eq_ite] at hr
        split at hr
        ·rename_i hc2
         simp only [Bool.and_eq_true,Nat.beq_eq,Nat.ble_eq] at hc2
         obtain ⟨⟨rfl,rfl⟩,hk,hfit⟩:=hc2
         have hk:len*sz≤n:=hk
         have hfit:(len+m)*by'≤140737488355328:=hfit
         simp only [Option.some.injEq] at hr; subst hr
         subst hkk
         have hq:(len+m)*sz=len*sz+l.length:=by rw [hll,Nat.add_mul]
         simp only [Nat.sub_zero] at h1 hle
         intro o ac w n' ho ha hst
         have hst2:St w0 w (pt b0 (.cells c.toArray e (0,0))+(Rr+fr)):=by rw [hh,yH] at hst; exact hst
         have hat:w.heap[b0]?=some (.cells c.toArray e (0,0)):=hst2.sat.left.pt.2
         obtain ⟨z,hI',hz,hz1⟩:=sizb_ok hT hs hb
         obtain ⟨i,i1,i2,i3,i4⟩:=hI'.out
         have hsr2:Srcz P e i.size tx u m us w:=by rw [i2]; exact hsr w hst
         have hul:us.length=m*sz:=by rw [hlen,hll]
         by_cases hroom:len+m≤C
         ·have hfits:len*sz+us.length≤c.length:=by
           rw [hul,hcl,← Nat.add_mul]; exact Nat.mul_le_mul_right _ hroom
          obtain ⟨w',hrun,hst3⟩:=run_room (P:=P) t tx o.type e i hu i1 (off:=0) hsr2 hroom hst2 (by rw [i2]; omega)
          rw [i2,Nat.zero_add] at hst3
          have hle2:V≤V.set nx b0 C:=Val.le_set (hH.fresh nx (Nat.le_refl _))
          have hO2:RO P (V.set nx b0 C) C (.c e (Nat.mul (Nat.add len m) sz) false (s.ext (Nat.mul (Nat.add len m) sz) (Nat.mul len sz) l)) (.cells (kX (len*sz) us c).toArray e (0,0)) :=
           RO.ext (hO.mono hle2) (hl.mono hle2 _) hl1 hk hq (by show (len+m)*sz≤_; rw [hq]; omega)
          obtain ⟨_,k2⟩:=hH.rename hid hV hh hO2
          refine ⟨.slice (some ⟨b0,0,none⟩) (len+m) C,w',_,.inl ?_,⟨_,_,hle2,(yH _ _ _).symm,?_,k2⟩,hst3⟩
          ·rw [run_app h1 h3 o ho ac n' ha]
           simp only [Sem.run_bind,hrun,Result.andThen_ok,Sem.run_pure]
          ·unfold R; exact ⟨b0,C,Val.set_self _ _ _ _,by simp only [cond_false]; exact hroom,by simp only [cond_false]; rfl⟩
         ·have hold:(Builtin.firstCells i.size len (.slice (some ⟨b0,0,none⟩) len C)).run P w.drew=.ok (c.take (len*sz)).toArray w.drew:=by
           rw [i2]
           refine run_firstCells_some w.drew sz len ⟨b0,0,none⟩ len C _ (by rw [List.length_take]; omega) fun j u hu=>?_
           rw [List.getElem?_take] at hu
           split at hu
           ·rw [uK,Nat.zero_add]
            have:=(List.getElem?_eq_some_iff.1 hu).1
            show w.cell? _=_
            simp [World.cell?,hat,hu]
           ·cases hu
          have hle3:len+m≤140737488355328:=Nat.le_trans (Nat.le_mul_of_pos_right _ (hby _ hb)) hfit
          have hrun:=run_grow_z (P:=P) w t tx o.type e i z hu i1 i4 (some ⟨b0,0,none⟩) len C (c.take (len*sz)) hold u m us hsr2 (by omega) (by omega) (by rw [i3]; exact growslice_fits (by omega) hfit)
          have hC:len+m≤grownCap w (len+m) C e:=grownCap_ge w _ _ _
          have htk:(c.take (len*sz)).length=len*sz:=by rw [List.length_take]; omega
          obtain ⟨g1,g2⟩:=grow_obj (e:=e) (sz:=sz) (C:=grownCap w (len+m) C e) (q:=len+m) (z:=z) (news:=c.take (len*sz)++us) hz (by rw [List.length_append,htk,hul,Nat.add_mul]) hC
          rw [g1] at hrun
          have hst':=hst.drew.alloc (.cells ((c.take (len*sz)++us)++(Builtin.zeroCells z.cells (grownCap w (len+m) C e - (len+m))).toList).toArray e)
          have hle2:V≤V.set nx w.heap.size (grownCap w (len+m) C e):=Val.le_set (hH.fresh nx (Nat.le_refl _))
          have hO2:RO P (V.set nx w.heap.size (grownCap w (len+m) C e)) (grownCap w (len+m) C e) (.c e (Nat.mul (Nat.add len m) sz) false (s.ext (Nat.mul (Nat.add len m) sz) (Nat.mul len sz) l))
            (.cells ((c.take (len*sz)++us)++(Builtin.zeroCells z.cells (grownCap w (len+m) C e - (len+m))).toList).toArray e (0,0)) :=
           RO.shorter (hO.mono hle2) (hl.mono hle2 _) hl1 hk hq (zeros_one hz1 _) (by rw [List.length_append,htk] at g2; rw [hcell]; exact g2)
          obtain ⟨_,k2⟩:=(hH.del id).new ⟨w0,_,fr,hst'⟩ hO2
          refine ⟨.slice (some ⟨w.heap.size,0,none⟩) (len+m) (grownCap w (len+m) C e),_,_,.inl ?_,⟨_,_,hle2,(yH _ _ _).symm,?_,k2⟩,hst'⟩
          ·rw [run_app h1 h3 o ho ac n' ha]
           simp only [Sem.run_bind,hrun,Result.andThen_ok,Sem.run_pure]
          ·unfold R; exact ⟨w.heap.size,_,Val.set_self _ _ _ _,by simp only [cond_false]; omega,by simp only [cond_false]; rfl⟩
        ·cases hr
      ·cases hr
    ·cases hr
   ·cases hr
end
end
end Ab
namespace Ab
noncomputable section
section
variable {P:Program} {TT:Nat→Option TI} {V:Val} {E:En} {g:Env} {w0:World} {H:T AO} {nx:Nat} {h fr:Hp}
theorem beq_t' {a b:Nat} (h:Nat.beq a b=true):a=b:=Nat.eq_of_beq_eq_true h
theorem RO.self {C:Nat} {o:AO} {ob:Obj} (h:RO P V C o ob):RO P V C o ob:=h
theorem ev_copyN {t tx e:TypeId} (hu:P.underlying t=some (.slice e)) {sz by':Nat} {z:Value} (hi:Inf P e sz by' z) {x y:Operand} {v:Value} {m dLen dCap:Nat} {ad:Option Addr} {us:List Value} {L:Hp}
  (hx:ev g x=some (.slice ad dLen dCap)) (hy:ev g y=some v) (hl:∀ w,(Builtin.lenOf v).run P w=.ok m w) (hmin:Nat.min m dLen=0) (hf:∀ w,St w0 w L→(Builtin.firstCells sz 0 v).run P w=.ok us.toArray w) (h0:us=[]) :
  EV P w0 L g (.call { callee:=.builtin .copy,args:=#[x,y],argTypes:=#[t,tx] }) fun u L'=>u=.int .i64 0∧L'=L:=by
 intro o a w n ho ha hst
 obtain ⟨i,i1,i2,i3,i4⟩:=hi.out
 subst h0
 refine ⟨.int .i64 0,w,L,.inl ?_,⟨rfl,rfl⟩,hst⟩
 unfold execOp
 simp only [ho,resolve,invoke,builtin,ha.ev hx,ha.ev hy,List.map_toArray,List.map_cons,List.map_nil,pure_bind]
 have hf:=hf w hst
 cases ad<;>simp [Builtin.copy_,run_underlying hu,hl w,sizeOf,typeInfo,i1,i2,hmin,hf,storeCells,goInt]
theorem ev_copyG {t tx e:TypeId} (hu:P.underlying t=some (.slice e)) {sz by':Nat} {z:Value} (hi:Inf P e sz by' z) {x y:Operand} {v:Value} {m b off dLen dCap n:Nat} {us c:List Value} {e':TypeId} {L Rr:Hp}
  (hx:ev g x=some (.slice (some ⟨b,off,none⟩) dLen dCap)) (hy:ev g y=some v) (hl:∀ w,(Builtin.lenOf v).run P w=.ok m w) (hmin:Nat.min m dLen=n) (hf:∀ w,St w0 w L→(Builtin.firstCells sz n v).run P w=.ok us.toArray w)
  (h1:yW us) (hb:L=pt b (.cells c.toArray e' (0,0))+Rr) (hc:off+us.length≤c.length) :
  EV P w0 L g (.call { callee:=.builtin .copy,args:=#[x,y],argTypes:=#[t,tx] }) fun u L'=>u=.int .i64 n∧L'=pt b (.cells (kX off us c).toArray e' (0,0))+Rr:=by
 intro o a w k ho ha hst
 obtain ⟨i,i1,i2,i3,i4⟩:=hi.out
 have hf2:=hf w hst
 subst hb
 obtain ⟨w',e1,e2⟩:=vO (P:=P) (off:=off) us 0 c w hst (fun v hv=>h1 v hv) (by omega)
 refine ⟨.int .i64 n,w',_,.inl ?_,⟨rfl,rfl⟩,e2⟩
 unfold execOp
 simp only [ho,resolve,invoke,builtin,ha.ev hx,ha.ev hy,List.map_toArray,List.map_cons,List.map_nil,pure_bind]
 simp [Builtin.copy_,run_underlying hu,hl w,sizeOf,typeInfo,i1,i2,hmin,goInt]
 rw [hf2]
 simp only [Result.andThen_ok,e1]
def copyA (TT:Nat→Option TI) (H:T AO) (nx e sz:Nat) (a b:AV):Option Eff:=match lenN a with
 | none=>none
 | some dl=>match lenN b with
  | none=>none
  | some m=>match rdA H sz (Nat.min m dl) b with
   | none=>none
   | some l=>match a with
    | .sl id off len cap kn=>match H.get id with
     | some (.c e' n kk s)=>bif and (Nat.ble (Nat.add off (Nat.mul (Nat.min m dl) sz)) n) (Nat.blt (Nat.min m dl) 9223372036854775808) then some (.i .i64 (Nat.min m dl),H.put (.c e' n kk (s.write l off)) id,nx) else none
     | _=>none
    | .ns=>some (.i .i64 0,H,nx)
    | .es=>some (.i .i64 0,H,nx)
    | _=>none
theorem copy_ok (hT:TOk P TT) (hE:RE V E g) (hH:RH P V H nx h) {t tx e sz:Nat} {x y:Operand} {a b:AV} {r:Eff} (ha:yV E x=some a) (hb:yV E y=some b) (hu:jF TT t=some (.slice e)) (hs:vF TT e=some sz)
  (hr:copyA TT H nx e sz a b=some r):EOk P w0 V h fr g (.call { callee:=.builtin .copy,args:=#[x,y],argTypes:=#[t,tx] }) r:=by
 obtain ⟨u,h1,h2⟩:=yI hE ha
 obtain ⟨v,h3,h4⟩:=yI hE hb
 obtain ⟨by',z,hI,hz⟩:=uP hT hs
 unfold copyA at hr
 split at hr
 ·cases hr
 ·rename_i dl hdl
  split at hr
  ·cases hr
  ·rename_i m hm
   split at hr
   ·cases hr
   ·rename_i l hl
    obtain ⟨k1,us,k2,k3,k4⟩:=rdA_ok (fr:=fr) (w0:=w0) hH hl h4
    have hlen:=lenN_ok (P:=P) hm h4
    have huslen:=k2.length
    have nil:Nat.min m dl=0→∀ {ad c},u=.slice ad 0 c→dl=0→r=(.i .i64 0,H,nx)→EOk P w0 V h fr g (.call { callee:=.builtin .copy,args:=#[x,y],argTypes:=#[t,tx] }) r:=by
     rintro h0 ad c rfl rfl rfl
     rw [h0] at k1 k4
     have e0:us=[]:=List.eq_nil_of_length_eq_zero (by rw [huslen,k1]; simp)
     refine EV.imp (ev_copyN (P:=P) (w0:=w0) (L:=h+fr) (us:=us) (yP hT hu) hI h1 h3 hlen h0 k4 e0) ?_
     rintro u L' ⟨rfl,rfl⟩ _
     exact ⟨V,h,Val.refl V,rfl,R.mkInt' (k:=.i64) (u:=0) (by decide) (by decide),hH⟩
    split at hr
    ·rename_i id off len cap kn
     have hdl:dl=len:=by simp only [lenN,Option.some.injEq] at hdl; exact hdl.symm
     subst hdl
     split at hr
     ·rename_i e' n kk s ho
      rw [cond_eq_ite] at hr
      split at hr
      ·rename_i hc
       simp only [Bool.and_eq_true,Nat.ble_eq,kU,decide_eq_true_eq] at hc
       obtain ⟨hc1,hc2⟩:=hc
       have hc1:off+Nat.min m dl*sz≤n:=hc1
       simp only [Option.some.injEq] at hr; subst hr
       unfold R at h2
       obtain ⟨b1,C,hV,_,rfl⟩:=h2
       obtain ⟨b',C',ob,Rr,hV',hh,hO⟩:=hH.has id _ ho
       rw [hV] at hV'
       simp only [Option.some.injEq,Prod.mk.injEq] at hV'
       obtain ⟨rfl,rfl⟩:=hV'
       obtain ⟨c,rfl,hO⟩:=ro_cells hO
       obtain ⟨_,c',e1,_,e2,_⟩:=hO.self
       have e1:c=c':=by simpa using congrArg (fun o=>match o with|Obj.cells a _ _=>a.toList|_=>[]) e1
       subst e1
       refine EV.imp (ev_copyG (P:=P) (w0:=w0) (L:=h+fr) (Rr:=Rr+fr) (yP hT hu) hI h1 h3 hlen O k4 k3 (by rw [hh,yH]) (by rw [huslen,k1]; omega)) ?_
       rintro u L' ⟨rfl,rfl⟩ _
       exact ⟨V,_,Val.refl V,(yH _ _ _).symm,R.mkInt' (k:=.i64) (by simp only [pwK]; omega) (kW (k:=.i64) (by simpa only [hfK] using hc2)),hH.put ho hV hh (RO.write hO k2 k3 (by rw [k1]; exact hc1))⟩
      ·cases hr
     ·cases hr
    ·simp only [lenN,Option.some.injEq] at hdl; subst hdl
     unfold R at h2
     exact nil (Nat.min_zero m) h2 O (by simpa using hr.symm)
    ·simp only [lenN,Option.some.injEq] at hdl; subst hdl
     unfold R at h2
     obtain ⟨a',c',rfl⟩:=h2
     exact nil (Nat.min_zero m) O O (by simpa using hr.symm)
    ·cases hr
def findA (k:IntKind) (u:Nat):List (AV × AV × Nat)→Nat→Option (Option (Nat × AV))
 | [],_=>some none
 | (x,v,_)::l,i=>match x with
  | .i k' u'=>bif decide (k=k') then (bif Nat.beq u u' then some (some (i,v)) else findA k u l (Nat.succ i)) else none
  | _=>none
theorem findA_none {d k:IntKind} {u:Nat} (hu:u<pwK k):∀ {l:List (AV × AV × Nat)} {es:List MapEntry} {i:Nat},RM V l es→findA k u l i=some none→Instr.findNow (.int d) (.int k (k.wrap u)) es i=some none
 | [],es,i,h,hf=>by rw [show es=[] from h]; rfl
 | (x,v,n)::l,es,i,h,hf=>by
  obtain ⟨key,val,es',rfl,h2,h3,h4⟩:=h
  simp only [findA] at hf
  split at hf
  ·rename_i k' u'
   simp only [cond_eq_ite,decide_eq_true_eq,Nat.beq_eq] at hf
   split at hf
   ·rename_i hk
    subst hk
    split at hf
    ·cases hf
    ·rename_i hne
     obtain ⟨hu',rfl⟩:=h2.int
     have hb:((k.wrap (u:Int))==(k.wrap (u':Int)))=false:=by
      rw [beq_eq_false_iff_ne]; exact fun e=>hne ((wrap_inj hu hu').1 e)
     simp only [Instr.findNow,Instr.sameNow,if_true,hb]
     exact findA_none hu h4 hf
   ·cases hf
  ·cases hf
theorem findA_some {d k:IntKind} {u:Nat} (hu:u<pwK k):∀ {l:List (AV × AV × Nat)} {es:List MapEntry} {i j:Nat} {a:AV},RM V l es→findA k u l i=some (some (j,a)) →
  ∃ e m,Instr.findNow (.int d) (.int k (k.wrap u)) es i=some (some (j,e.val))∧j=i+m∧es[m]?=some e∧e.key=.int k (k.wrap u)∧R V a e.val∧∃ n,l[m]?=some (.i k u,a,n)∧e.born=n
 | [],es,i,j,a,h,hf=>by cases hf
 | (x,v,n)::l,es,i,j,a,h,hf=>by
  obtain ⟨key,val,es',rfl,h2,h3,h4⟩:=h
  simp only [findA] at hf
  split at hf
  ·rename_i k' u'
   simp only [cond_eq_ite,decide_eq_true_eq,Nat.beq_eq] at hf
   split at hf
   ·rename_i hk
    subst hk
    obtain ⟨hu',rfl⟩:=h2.int
    split at hf
    ·rename_i e
     subst e
     simp only [Option.some.injEq,Prod.mk.injEq] at hf
     obtain ⟨rfl,rfl⟩:=hf
     exact ⟨_,0,by simp [Instr.findNow,Instr.sameNow],rfl,rfl,rfl,h3,n,rfl,rfl⟩
    ·rename_i hne
     have hb:((k.wrap (u:Int))==(k.wrap (u':Int)))=false:=by
      rw [beq_eq_false_iff_ne]; exact fun e=>hne ((wrap_inj hu hu').1 e)
     obtain ⟨e,m,g1,g2,g3,g4,g5,n',g6,g7⟩:=findA_some (d:=d) hu h4 hf
     exact ⟨e,m+1,by simpa only [Instr.findNow,Instr.sameNow,if_true,hb] using g1,by omega,by simpa using g3,g4,g5,n',by simpa using g6,g7⟩
   ·cases hf
  ·cases hf
theorem RM.append {l m:List (AV × AV × Nat)}:∀ {es fs:List MapEntry},RM V l es→RM V m fs→RM V (l++m) (es++fs):=by
 induction l with
 | nil=>intro es fs h h'; rw [show es=[] from h]; exact h'
 | cons x l ih =>
  intro es fs h h'
  obtain ⟨k,v,n⟩:=x
  obtain ⟨key,val,es',rfl,h2,h3,h4⟩:=h
  exact ⟨key,val,es'++fs,rfl,h2,h3,ih h4 h'⟩
theorem RM.set {k:IntKind} {u:Nat} {a b:AV} {n:Nat} {e:MapEntry} {v:Value} (hR:R V b v) (hk:R V (.i k u) (.int k (k.wrap u))):∀ {l:List (AV × AV × Nat)} {es:List MapEntry} {m:Nat},RM V l es→l[m]?=some (.i k u,a,n)→es[m]?=some e →
  RM V (l.set m (.i k u,b,n)) (es.set m { e with key:=.int k (k.wrap u),val:=v })
 | [],es,m,h,hl,he=>by cases hl
 | x::l,es,0,h,hl,he=>by
  simp only [List.getElem?_cons_zero,Option.some.injEq] at hl; subst hl
  obtain ⟨key,val,es',rfl,h2,h3,h4⟩:=h
  simp only [List.getElem?_cons_zero,Option.some.injEq] at he; subst he
  exact ⟨_,_,_,rfl,hk,hR,h4⟩
 | (x,y,z)::l,es,m+1,h,hl,he=>by
  obtain ⟨key,val,es',rfl,h2,h3,h4⟩:=h
  exact ⟨key,val,_,rfl,h2,h3,RM.set hR hk h4 (by simpa using hl) (by simpa using he)⟩
theorem RM.erase :∀ {l:List (AV × AV × Nat)} {es:List MapEntry} {m:Nat},RM V l es→RM V (l.eraseIdx m) (es.eraseIdx m)
 | [],es,m,h=>by rw [show es=[] from h]; exact rfl
 | (x,y,z)::l,es,0,h=>by
  obtain ⟨key,val,es',rfl,h2,h3,h4⟩:=h
  exact h4
 | (x,y,z)::l,es,m+1,h=>by
  obtain ⟨key,val,es',rfl,h2,h3,h4⟩:=h
  exact ⟨key,val,_,rfl,h2,h3,RM.erase h4⟩
theorem RM.length :∀ {l:List (AV × AV × Nat)} {es:List MapEntry},RM V l es→es.length=l.length
 | [],es,h=>by rw [show es=[] from h]; rfl
 | (x,y,z)::l,es,h=>by
  obtain ⟨key,val,es',rfl,h2,h3,h4⟩:=h
  simp [RM.length h4]
theorem mp_at (hH:RH P V H nx h) {id:Nat} {es:List (AV × AV × Nat)} {clock:Nat} (ho:H.get id=some (.mp es clock)) {v:Value} (hr:R V (.m id) v) :
  ∃ b C es' Rr,v=.map (some b)∧V id=some (b,C)∧h=pt b (.map es'.toArray clock)+Rr∧RM V es es'∧RO P V C (.mp es clock) (.map es'.toArray clock)∧∀ w,St w0 w (h+fr)→w.heap[b]?=some (.map es'.toArray clock):=by
 unfold R at hr
 obtain ⟨b,C,hV,rfl⟩:=hr
 obtain ⟨b',C',ob,Rr,hV',hh,hO⟩:=hH.has id _ ho
 rw [hV] at hV'
 simp only [Option.some.injEq,Prod.mk.injEq] at hV'
 obtain ⟨rfl,rfl⟩:=hV'
 obtain ⟨es',rfl,hM⟩:=hO.self
 exact ⟨b,C,es',Rr,rfl,hV,hh,hM,hO,fun w hst=>by rw [hh,yH] at hst; exact hst.sat.left.pt.2⟩
theorem setMap {w:World} {b:Nat} {o o':Obj} {Rr:Hp} (hst:St w0 w (pt b o+Rr)) (hb:w.heap[b]?=some o):St w0 { w with heap:=w.heap.setIfInBounds b o' } (pt b o'+Rr):=by
 obtain ⟨h1,h2⟩:=MapKept.heap_set (o':=o') hb
 exact hst.set h1 h2 (by simp) O O O
def lookA (TT:Nat→Option TI) (H:T AO) (E:En) (nx t:Nat) (x ix:Operand) (ok:Bool):Option Eff:=match jF TT t with
 | some (.map kt e)=>match jF TT kt with
  | some (.int d)=>match yV E ix with
   | some (.i k u)=>match zerT TT e with
    | none=>none
    | some z=>bif decide (k=d) then match yV E x with
     | some .nm=>some (bif ok then .tu [z,.b false] else z,H,nx)
     | some (.m id)=>match H.get id with
      | some (.mp es _)=>match findA k u es 0 with
       | none=>none
       | some none=>some (bif ok then .tu [z,.b false] else z,H,nx)
       | some (some (_,v))=>some (bif ok then .tu [v,.b true] else v,H,nx)
      | _=>none
     | _=>none
     else none
   | _=>none
  | _=>none
 | _=>none
theorem isKey_int {d k:IntKind} {n:Int}:MapKept.IsKey (.int d) (.int k n)↔k=d:=by
 constructor
 ·intro h; simp only [MapKept.IsKey] at h; first|exact h|exact h.symm
 ·intro h; subst h; simp only [MapKept.IsKey]
def valOr (r:Option (Nat × Value)) (z:Value):Value:=match r with
 | some (_,v)=>v
 | none=>z
theorem ev_lookup {t kt e:TypeId} {d:IntKind} (hu:P.underlying t=some (.map kt e)) (hk:P.underlying kt=some (.int d)) {sz by':Nat} {z:Value} (hi:Inf P e sz by' z) {x ix:Operand} {mv:Option Nat} {es:List MapEntry} {clock:Nat} {n:Int} {L:Hp} {r:Option (Nat × Value)}
  (hx:ev g x=some (.map mv)) (hix:ev g ix=some (.int d n)) (hm:mv=none∧es=[]∨∃ b,mv=some b∧∀ w,St w0 w L→w.heap[b]?=some (.map es.toArray clock)) (hf:Instr.findNow (.int d) (.int d n) es 0=some r) (ok:Bool) :
  EV P w0 L g (.lookup t x ix ok) fun u L'=>L'=L∧u=(if ok then .tuple #[valOr r z,.bool r.isSome] else valOr r z):=by
 intro o a w k ho ha hst
 obtain ⟨i,i1,i2,i3,i4⟩:=hi.out
 refine ⟨_,w,L,.inl ?_,⟨rfl,rfl⟩,hst⟩
 unfold execOp
 simp only [ho,ha.ev hx,ha.ev hix]
 have hck:∀ b,(Instr.checkKey b 10000 kt (.int d n)).run P w=.ok () w:=fun b=>MapKept.run_checkKey hk (isKey_int.2 O) b 9999
 have hfk:(Instr.findKey kt (.int d n) es).run P w=.ok r w:=MapKept.run_findKey hk hf
 rcases hm with ⟨rfl,rfl⟩|⟨b,rfl,hb⟩
 ·cases r with
  | none=>cases ok<;>simp [Instr.lookup,run_underlying hu,hck,hfk,zeroValue,typeInfo,i1,i4,valOr]
  | some p=>cases hf
 ·have hg:=MapKept.run_getObj_map (P:=P) (hb w hst)
  cases r with
  | none=>cases ok<;>simp [Instr.lookup,run_underlying hu,hg,hck,hfk,zeroValue,typeInfo,i1,i4,valOr]
  | some p=>cases ok<;>simp [Instr.lookup,run_underlying hu,hg,hck,hfk,valOr]
theorem look_ok (hT:TOk P TT) (hE:RE V E g) (hH:RH P V H nx h) {t:Nat} {x ix:Operand} {ok:Bool} {r:Eff} (hr:lookA TT H E nx t x ix ok=some r):EOk P w0 V h fr g (.lookup t x ix ok) r:=by
 unfold lookA at hr
 split at hr
 ·rename_i kt e hu
  split at hr
  ·rename_i d hk
   split at hr
   ·rename_i k u hix
    split at hr
    ·cases hr
    ·rename_i z hz
     obtain ⟨m,by',zv,hm,_,hI,_,hR⟩:=zer_ok hT hz
     obtain ⟨iv,h3,h4⟩:=yI hE hix
     obtain ⟨hu2,rfl⟩:=h4.int
     rw [cond_eq_ite] at hr
     split at hr
     ·rename_i hkd
      have hkd:k=d:=of_decide_eq_true hkd
      subst hkd
      have hl:∀ {mv:Option Nat} {es:List MapEntry} {clock:Nat} {fr':Option (Nat × Value)} {av:AV} {bv:Bool},ev g x=some (.map mv)→(mv=none∧es=[]∨∃ b,mv=some b∧∀ w,St w0 w (h+fr)→w.heap[b]?=some (.map es.toArray clock)) →
        Instr.findNow (.int k) (.int k (k.wrap u)) es 0=some fr'→fr'.isSome=bv→R V av (valOr fr' zv)→r=(bif ok then .tu [av,.b bv] else av,H,nx)→EOk P w0 V h fr g (.lookup t x ix ok) r:=by
       rintro mv es clock fr' av bv hx hmv hf rfl hav rfl
       refine EV.imp (ev_lookup (P:=P) (w0:=w0) (L:=h+fr) (yP hT hu) (yP hT hk) hI hx h3 hmv hf ok) ?_
       rintro u' L' ⟨rfl,rfl⟩ _
       refine ⟨V,h,Val.refl V,rfl,?_,hH⟩
       cases ok with
       | false=>rw [if_neg (by decide)]; exact hav
       | true =>
        rw [if_pos O]
        show R V (.tu [av,.b _]) _
        unfold R
        exact ⟨_,RL.mk hav (RL.mk (by unfold R; rfl) (RL.nil.2 O)),rfl⟩
      split at hr
      ·rename_i hx
       obtain ⟨mv,h5,h6⟩:=yI hE hx
       unfold R at h6
       subst h6
       exact hl (es:=[]) (clock:=0) (fr':=none) h5 (.inl ⟨rfl,rfl⟩) O O (hR V) (by simpa using hr.symm)
      ·rename_i id hx
       obtain ⟨mv,h5,h6⟩:=yI hE hx
       split at hr
       ·rename_i es clock ho
        obtain ⟨b,C,es',Rr,rfl,hV,hh,hM,hO,hat⟩:=mp_at (w0:=w0) (fr:=fr) hH ho h6
        split at hr
        ·cases hr
        ·rename_i hfi
         exact hl (es:=es') (fr':=none) h5 (.inr ⟨b,rfl,hat⟩) (findA_none hu2 hM hfi) O (hR V) (by simpa using hr.symm)
        ·rename_i j v hfi
         obtain ⟨en,m2,g1,_,_,_,g5,_⟩:=findA_some (d:=k) hu2 hM hfi
         exact hl (es:=es') h5 (.inr ⟨b,rfl,hat⟩) g1 O g5 (by simpa using hr.symm)
       ·cases hr
      ·cases hr
     ·cases hr
   ·cases hr
  ·cases hr
 ·cases hr
def updA (k:IntKind) (u:Nat) (a:AV) (es:List (AV × AV × Nat)) (clock:Nat):Option AO:=match findA k u es 0 with
 | none=>none
 | some none=>some (.mp (es++[(.i k u,a,clock)]) (Nat.succ clock))
 | some (some (j,_))=>match es[j]? with
  | none=>none
  | some (_,_,n)=>some (.mp (es.set j (.i k u,a,n)) clock)
def mapUA (TT:Nat→Option TI) (H:T AO) (E:En) (nx t:Nat) (x ix y:Operand):Option Eff:=match jF TT t with
 | some (.map kt e)=>match jF TT kt with
  | some (.int d)=>match yV E ix with
   | some (.i k u)=>match yV E y with
    | none=>none
    | some a=>bif decide (k=d) then match yV E x with
     | some (.m id)=>match H.get id with
      | some (.mp es clock)=>match updA k u a es clock with
       | none=>none
       | some o=>some (wC,H.put o id,nx)
      | _=>none
     | _=>none
     else none
   | _=>none
  | _=>none
 | _=>none
theorem ev_mapUpd {t kt e:TypeId} {d:IntKind} (hu:P.underlying t=some (.map kt e)) (hk:P.underlying kt=some (.int d)) {x ix y:Operand} {b:Nat} {es:List MapEntry} {clock:Nat} {n:Int} {v:Value} {Rr:Hp}
  (hx:ev g x=some (.map (some b))) (hix:ev g ix=some (.int d n)) (hy:ev g y=some v) {r:Option (Nat × Value)} (hf:Instr.findNow (.int d) (.int d n) es 0=some r) (hj:∀ p,r=some p→∃ en,es[p.1]?=some en∧en.key=.int d n) :
  EV P w0 (pt b (.map es.toArray clock)+Rr) g (.mapUpdate t x ix y) fun u L'=>u=undef∧L'=pt b (match r with
   | none=>.map (es++[({ key:=.int d n,val:=v,born:=clock }:MapEntry)]).toArray (clock+1)
   | some (j,_)=>.map (es.toArray.modify j fun e=>{ e with key:=.int d n,val:=v }) clock)+Rr:=by
 intro o a w k ho ha hst
 have hb:=hst.sat.left.pt.2
 have hg:=MapKept.run_getObj_map (P:=P) hb
 have hck:(Instr.checkKey false 10000 kt (.int d n)).run P w=.ok () w:=MapKept.run_checkKey hk (isKey_int.2 O) false 9999
 have hfk:(Instr.findKey kt (.int d n) es).run P w=.ok r w:=MapKept.run_findKey hk hf
 refine ⟨undef,{ w with heap:=w.heap.setIfInBounds b _ },_,.inr ⟨?_,rfl⟩,⟨rfl,rfl⟩,setMap hst hb⟩
 unfold execOp
 simp only [ho,ha.ev hx,ha.ev hix,ha.ev hy]
 cases r with
 | none=>simp [Instr.mapUpdate,run_underlying hu,hg,hck,hfk,MapKept.run_setObj_map _ hb]
 | some p =>
  obtain ⟨j,v'⟩:=p
  obtain ⟨en,he1,he2⟩:=hj _ rfl
  have hst:=MapKept.run_keyThatStays (P:=P) (w:=w) (d:=.int d) (k:=.int d n) (isKey_int.2 O)
  have he3:((es.toArray[j]?).map (·.key)).getD (.int d n)=.int d n:=by simp [he1,he2]
  simp [Instr.mapUpdate,run_underlying hu,hg,hck,hfk,he1,he2,hst,MapKept.run_setObj_map _ hb]
theorem modify_set {α:Type} (l:List α) (j:Nat) (f:α→α) (a:α) (h:l[j]?=some a):(l.toArray.modify j f)=(l.set j (f a)).toArray:=by
 apply Array.ext'
 rw [Array.toList_modify]
 apply List.ext_getElem?
 intro i
 rw [List.getElem?_modify,List.getElem?_set]
 by_cases hi:j=i
 ·subst hi
  obtain ⟨hl,he⟩:=List.getElem?_eq_some_iff.1 h
  simp [hl,he]
 ·simp [hi]
theorem mapU_ok (hT:TOk P TT) (hE:RE V E g) (hH:RH P V H nx h) {t:Nat} {x ix y:Operand} {r:Eff} (hr:mapUA TT H E nx t x ix y=some r):EOk P w0 V h fr g (.mapUpdate t x ix y) r:=by
 unfold mapUA at hr
 split at hr
 ·rename_i kt e hu
  split at hr
  ·rename_i d hk
   split at hr
   ·rename_i k u hix
    split at hr
    ·cases hr
    ·rename_i a hy
     rw [cond_eq_ite] at hr
     split at hr
     ·rename_i hkd
      have hkd:k=d:=of_decide_eq_true hkd
      subst hkd
      split at hr
      ·rename_i id hx
       split at hr
       ·rename_i es clock ho
        split at hr
        ·cases hr
        ·rename_i o' hup
         simp only [Option.some.injEq] at hr; subst hr
         obtain ⟨iv,h3,h4⟩:=yI hE hix
         obtain ⟨hu2,rfl⟩:=h4.int
         obtain ⟨mv,h5,h6⟩:=yI hE hx
         obtain ⟨v,h7,h8⟩:=yI hE hy
         obtain ⟨b,C,es',Rr,rfl,hV,hh,hM,hO,hat⟩:=mp_at (w0:=w0) (fr:=fr) hH ho h6
         have hL:h+fr=pt b (.map es'.toArray clock)+(Rr+fr):=by rw [hh,yH]
         have fin:∀ {ob':Obj},EV P w0 (h+fr) g (.mapUpdate t x ix y) (fun u L'=>u=undef∧L'=pt b ob'+(Rr+fr))→RO P V C o' ob'→EOk P w0 V h fr g (.mapUpdate t x ix y) (wC,H.put o' id,nx):=by
          intro ob' he hO'
          refine EV.imp he ?_
          rintro u' L' ⟨rfl,rfl⟩ _
          exact ⟨V,pt b ob'+Rr,Val.refl V,(yH _ _ _).symm,R.und,hH.put ho hV hh hO'⟩
         unfold updA at hup
         split at hup
         ·cases hup
         ·rename_i hfi
          simp only [Option.some.injEq] at hup; subst hup
          refine fin (ob':=.map (es'++[({ key:=.int k (k.wrap u),val:=v,born:=clock }:MapEntry)]).toArray (clock+1)) ?_ ⟨_,rfl,RM.append hM ⟨_,_,[],rfl,h4,h8,rfl⟩⟩
          rw [hL]
          exact ev_mapUpd (r:=none) (yP hT hu) (yP hT hk) h5 h3 h7 (findA_none hu2 hM hfi) (fun p hp=>by cases hp)
         ·rename_i j v0 hfi
          split at hup
          ·cases hup
          ·rename_i q1 q2 n hj
           simp only [Option.some.injEq] at hup; subst hup
           obtain ⟨en,m2,g1,g2,g3,g4,g5,n',g6,g7⟩:=findA_some (d:=k) hu2 hM hfi
           have g2:j=m2:=by omega
           subst g2
           rw [g6] at hj
           simp only [Option.some.injEq,Prod.mk.injEq] at hj
           obtain ⟨_,_,rfl⟩:=hj
           refine fin (ob':=.map (es'.set j { en with key:=.int k (k.wrap u),val:=v }).toArray clock) ?_ ⟨_,rfl,RM.set h8 h4 hM g6 g3⟩
           rw [hL]
           refine EV.imp (ev_mapUpd (r:=some (j,en.val)) (yP hT hu) (yP hT hk) h5 h3 h7 g1 (fun p hp=>by cases hp; exact ⟨en,g3,g4⟩)) ?_
           rintro u' L' ⟨rfl,rfl⟩ _
           refine ⟨rfl,?_⟩
           simp only [modify_set _ _ _ _ g3]
       ·cases hr
      ·cases hr
     ·cases hr
   ·cases hr
  ·cases hr
 ·cases hr
def makeMA (H:T AO) (nx:Nat):Option Operand→Option Eff
 | none=>some (.m nx,H.put (.mp [] 0) nx,Nat.succ nx)
 | some _=>none
theorem makeM_ok (hH:RH P V H nx h) {t:Nat} {q:Option Operand} {r:Eff} (hr:makeMA H nx q=some r):EOk P w0 V h fr g (.makeMap t q) r:=by
 cases q with
 | some y=>cases hr
 | none =>
  simp only [makeMA,Option.some.injEq] at hr; subst hr
  refine new_ok hH (C:=0) (mk:=fun b=>.map (some b)) (ob:=.map #[] 0) ?_ (fun V' _=>⟨[],rfl,rfl⟩) (fun b=>by unfold R; exact ⟨b,0,Val.set_self _ _ _ _,rfl⟩)
  intro o a w n ho ha hst
  refine ⟨.map (some w.heap.size),w.alloc (.map #[] 0),_,.inl ?_,⟨_,rfl,rfl⟩,hst.alloc _⟩
  unfold execOp
  have hnew:(newObj (.map #[] 0)).run P w=.ok w.heap.size (w.alloc (.map #[] 0)):=rfl
  simp [ho,Instr.makeMap,hnew]
def delA (TT:Nat→Option TI) (H:T AO) (nx t:Nat) (a ix:AV):Option Eff:=match jF TT t with
 | some (.map kt e)=>match jF TT kt with
  | some (.int d)=>match ix with
   | .i k u=>bif decide (k=d) then (match a with
    | .nm=>some (wC,H,nx)
    | .m id=>(match H.get id with
     | some (.mp es clock)=>match findA k u es 0 with
      | none=>none
      | some none=>some (wC,H,nx)
      | some (some (j,_))=>some (wC,H.put (.mp (es.eraseIdx j) clock) id,nx)
     | _=>none)
    | _=>none) else none
   | _=>none
  | _=>none
 | _=>none
theorem del_ok (hT:TOk P TT) (hE:RE V E g) (hH:RH P V H nx h) {t t2:Nat} {x ix:Operand} {a b:AV} {r:Eff} (ha:yV E x=some a) (hb:yV E ix=some b) (hr:delA TT H nx t a b=some r) :
  EOk P w0 V h fr g (.call { callee:=.builtin .delete,args:=#[x,ix],argTypes:=#[t,t2] }) r:=by
 unfold delA at hr
 split at hr
 ·rename_i kt e hu
  split at hr
  ·rename_i d hk
   split at hr
   ·rename_i k u
    rw [cond_eq_ite] at hr
    split at hr
    ·rename_i hkd
     have hkd:k=d:=of_decide_eq_true hkd
     subst hkd
     obtain ⟨iv,h3,h4⟩:=yI hE hb
     obtain ⟨hu2,rfl⟩:=h4.int
     obtain ⟨mv,h5,h6⟩:=yI hE ha
     have hu':=yP hT hu
     have hk':=yP hT hk
     have hck:∀ w b,(Instr.checkKey b 10000 kt (.int k (k.wrap u))).run P w=.ok () w:=fun w b=>MapKept.run_checkKey hk' (isKey_int.2 O) b 9999
     have same:EV P w0 (h+fr) g (.call { callee:=.builtin .delete,args:=#[x,ix],argTypes:=#[t,t2] }) (fun u' L'=>u'=undef∧L'=h+fr)→EOk P w0 V h fr g (.call { callee:=.builtin .delete,args:=#[x,ix],argTypes:=#[t,t2] }) (wC,H,nx):=fun he =>
      EV.imp he (by rintro u' L' ⟨rfl,rfl⟩ _; exact ⟨V,h,Val.refl V,rfl,R.und,hH⟩)
     split at hr
     ·simp only [Option.some.injEq] at hr; subst hr
      unfold R at h6; subst h6
      refine same ?_
      intro o ac w n ho hac hst
      refine ⟨undef,w,_,.inl ?_,⟨rfl,rfl⟩,hst⟩
      unfold execOp
      simp only [ho,resolve,invoke,builtin,hac.ev h5,hac.ev h3,List.map_toArray,List.map_cons,List.map_nil,pure_bind]
      simp [Builtin.delete_,run_underlying hu',hck,undef]
     ·rename_i id
      split at hr
      ·rename_i es clock ho
       obtain ⟨b1,C,es',Rr,rfl,hV,hh,hM,hO,hat⟩:=mp_at (w0:=w0) (fr:=fr) hH ho h6
       split at hr
       ·cases hr
       ·rename_i hfi
        simp only [Option.some.injEq] at hr; subst hr
        refine same ?_
        intro o ac w n ho hac hst
        have hat:=hat w hst
        have hfk:(Instr.findKey kt (.int k (k.wrap u)) es').run P w=.ok none w:=MapKept.run_findKey hk' (findA_none hu2 hM hfi)
        have hst':St w0 w (pt b1 (.map es'.toArray clock)+(Rr+fr)):=by rw [hh,yH] at hst; exact hst
        refine ⟨undef,{ w with heap:=w.heap.setIfInBounds b1 (.map es'.toArray clock) },_,.inl ?_,⟨rfl,?_⟩,setMap hst' hat⟩
        ·unfold execOp
         simp only [ho,resolve,invoke,builtin,hac.ev h5,hac.ev h3,List.map_toArray,List.map_cons,List.map_nil,pure_bind]
         simp [Builtin.delete_,run_underlying hu',MapKept.run_getObj_map hat,hck,hfk,MapKept.run_setObj_map _ hat,undef]
        ·rw [hh,yH]
       ·rename_i j v0 hfi
        simp only [Option.some.injEq] at hr; subst hr
        obtain ⟨en,m2,g1,g2,g3,g4,g5,n',g6,g7⟩:=findA_some (d:=k) hu2 hM hfi
        have g2:j=m2:=by omega
        subst g2
        have hjl:j<es'.length:=(List.getElem?_eq_some_iff.1 g3).1
        have he:EV P w0 (h+fr) g (.call { callee:=.builtin .delete,args:=#[x,ix],argTypes:=#[t,t2] }) (fun u' L'=>u'=undef∧L'=pt b1 (.map (es'.eraseIdx j).toArray clock)+(Rr+fr)):=by
         intro o ac w n ho hac hst
         have hat:=hat w hst
         have hfk:(Instr.findKey kt (.int k (k.wrap u)) es').run P w=.ok (some (j,en.val)) w:=MapKept.run_findKey hk' g1
         have hst':St w0 w (pt b1 (.map es'.toArray clock)+(Rr+fr)):=by rw [hh,yH] at hst; exact hst
         have he:es'.toArray.eraseIdxIfInBounds j=(es'.eraseIdx j).toArray:=by
          unfold Array.eraseIdxIfInBounds
          rw [dif_pos (by simpa using hjl)]
          apply Array.ext'; simp
         refine ⟨undef,{ w with heap:=w.heap.setIfInBounds b1 (.map (es'.eraseIdx j).toArray clock) },_,.inl ?_,⟨rfl,rfl⟩,setMap hst' hat⟩
         unfold execOp
         simp only [ho,resolve,invoke,builtin,hac.ev h5,hac.ev h3,List.map_toArray,List.map_cons,List.map_nil,pure_bind]
         simp [Builtin.delete_,run_underlying hu',MapKept.run_getObj_map hat,hck,hfk,MapKept.run_setObj_map _ hat,undef,he]
        refine EV.imp he ?_
        rintro u' L' ⟨rfl,rfl⟩ _
        exact ⟨V,pt b1 (.map (es'.eraseIdx j).toArray clock)+Rr,Val.refl V,(yH _ _ _).symm,R.und,hH.put ho hV hh ⟨_,rfl,RM.erase hM⟩⟩
      ·cases hr
     ·cases hr
    ·cases hr
   ·cases hr
  ·cases hr
 ·cases hr
def clrA (TT:Nat→Option TI) (H:T AO) (nx t:Nat) (a:AV):Option Eff:=match jF TT t with
 | some (.map _ _)=>match a with
  | .nm=>some (wC,H,nx)
  | .m id=>match H.get id with
   | some (.mp _ clock)=>some (wC,H.put (.mp [] clock) id,nx)
   | _=>none
  | _=>none
 | some (.slice e)=>match a with
  | .ns=>some (wC,H,nx)
  | .es=>some (wC,H,nx)
  | .sl id off len cap kn=>match zerT TT e with
   | none=>none
   | some z=>match uE z with
    | none=>none
    | some zs=>match vF TT e with
     | none=>none
     | some sz=>match H.get id with
      | some (.c e' n kk s)=>bif and (Nat.ble (Nat.add off (Nat.mul len sz)) n) (Nat.blt 0 len) then some (wC,H.put (.c e' n kk (s.write (repA zs len) off)) id,nx) else (bif Nat.beq len 0 then some (wC,H,nx) else none)
      | _=>none
  | _=>none
 | _=>none
theorem clr_ok (hT:TOk P TT) (hE:RE V E g) (hH:RH P V H nx h) {t:Nat} {x:Operand} {a:AV} {r:Eff} (ha:yV E x=some a) (hr:clrA TT H nx t a=some r) :
  EOk P w0 V h fr g (.call { callee:=.builtin .clear,args:=#[x],argTypes:=#[t] }) r:=by
 obtain ⟨mv,h5,h6⟩:=yI hE ha
 have same:∀ {d},P.underlying t=some d→(∀ w,(Builtin.clear_ #[t] 0 #[mv]).run P w=.ok (.tuple #[]) w∧∀ ty,(Builtin.clear_ #[t] ty #[mv]).run P w=.ok (.tuple #[]) w)→EOk P w0 V h fr g (.call { callee:=.builtin .clear,args:=#[x],argTypes:=#[t] }) (wC,H,nx):=by
  intro d hd hc
  have he:EV P w0 (h+fr) g (.call { callee:=.builtin .clear,args:=#[x],argTypes:=#[t] }) (fun u' L'=>u'=undef∧L'=h+fr):=by
   intro o ac w n ho hac hst
   refine ⟨undef,w,_,.inl ?_,⟨rfl,rfl⟩,hst⟩
   unfold execOp
   simp only [ho,resolve,invoke,builtin,hac.ev h5,List.map_toArray,List.map_cons,List.map_nil,pure_bind]
   simp [(hc w).2,undef]
  refine EV.imp he ?_
  rintro u' L' ⟨rfl,rfl⟩ _
  exact ⟨V,h,Val.refl V,rfl,R.und,hH⟩
 unfold clrA at hr
 split at hr
 ·rename_i kt e hu
  have hu:=yP hT hu
  split at hr
  ·simp only [Option.some.injEq] at hr; subst hr
   unfold R at h6; subst h6
   exact same hu fun w=>⟨by simp [Builtin.clear_,run_underlying hu],fun ty=>by simp [Builtin.clear_,run_underlying hu]⟩
  ·rename_i id
   split at hr
   ·rename_i es clock ho
    simp only [Option.some.injEq] at hr; subst hr
    obtain ⟨b1,C,es',Rr,rfl,hV,hh,hM,hO,hat⟩:=mp_at (w0:=w0) (fr:=fr) hH ho h6
    have he:EV P w0 (h+fr) g (.call { callee:=.builtin .clear,args:=#[x],argTypes:=#[t] }) (fun u' L'=>u'=undef∧L'=pt b1 (.map #[] clock)+(Rr+fr)):=by
     intro o ac w n ho hac hst
     have hat:=hat w hst
     have hst':St w0 w (pt b1 (.map es'.toArray clock)+(Rr+fr)):=by rw [hh,yH] at hst; exact hst
     refine ⟨undef,{ w with heap:=w.heap.setIfInBounds b1 (.map #[] clock) },_,.inl ?_,⟨rfl,rfl⟩,setMap hst' hat⟩
     unfold execOp
     simp only [ho,resolve,invoke,builtin,hac.ev h5,List.map_toArray,List.map_cons,List.map_nil,pure_bind]
     simp [Builtin.clear_,run_underlying hu,MapKept.run_getObj_map hat,MapKept.run_setObj_map _ hat,undef]
    refine EV.imp he ?_
    rintro u' L' ⟨rfl,rfl⟩ _
    exact ⟨V,pt b1 (.map #[] clock)+Rr,Val.refl V,(yH _ _ _).symm,R.und,hH.put ho hV hh ⟨[],rfl,rfl⟩⟩
   ·cases hr
  ·cases hr
 ·rename_i e hu
  have hu:=yP hT hu
  split at hr
  ·simp only [Option.some.injEq] at hr; subst hr
   unfold R at h6; subst h6
   exact same hu fun w=>⟨by simp [Builtin.clear_,run_underlying hu],fun ty=>by simp [Builtin.clear_,run_underlying hu]⟩
  ·simp only [Option.some.injEq] at hr; subst hr
   unfold R at h6; obtain ⟨a',c',rfl⟩:=h6
   exact same hu fun w=>⟨by simp [Builtin.clear_,run_underlying hu],fun ty=>by simp [Builtin.clear_,run_underlying hu]⟩
  ·rename_i id off len cap kn
   split at hr
   ·cases hr
   ·rename_i z hz
    split at hr
    ·cases hr
    ·rename_i zs hzs
     split at hr
     ·cases hr
     ·rename_i sz hsz
      split at hr
      ·rename_i e' n kk s ho
       rw [cond_eq_ite] at hr
       split at hr
       ·rename_i hc
        simp only [Bool.and_eq_true,Nat.ble_eq,kU,decide_eq_true_eq] at hc
        obtain ⟨hc1,hc2⟩:=hc
        have hc1:off+len*sz≤n:=hc1
        simp only [Option.some.injEq] at hr; subst hr
        unfold R at h6
        obtain ⟨b1,C,hV,_,rfl⟩:=h6
        obtain ⟨b',C',ob,Rr,hV',hh,hO⟩:=hH.has id _ ho
        rw [hV] at hV'
        simp only [Option.some.injEq,Prod.mk.injEq] at hV'
        obtain ⟨rfl,rfl⟩:=hV'
        obtain ⟨c,rfl,hO⟩:=ro_cells hO
        obtain ⟨_,c',e1,_,e2,_⟩:=hO.self
        have e1:c=c':=by simpa using congrArg (fun o=>match o with|Obj.cells a _ _=>a.toList|_=>[]) e1
        subst e1
        obtain ⟨m,by',zv,hm,_,hI,hcs,hR⟩:=zer_ok hT hz
        have em:m=sz:=by rw [hm] at hsz; simpa using hsz
        subst em
        obtain ⟨hzc,hz1⟩:=wY hzs (hR V)
        have hrep:=repA_ok hzc len
        have hlen:(List.replicate len zv.cells.toList).flatten.length=len*m:=by simp [hcs]
        have hall:=uQ hz1 len
        have he:EV P w0 (h+fr) g (.call { callee:=.builtin .clear,args:=#[x],argTypes:=#[t] }) (fun u' L'=>u'=undef∧L'=pt b1 (.cells (kX off (List.replicate len zv.cells.toList).flatten c).toArray e' (0,0))+(Rr+fr)):=by
         intro o ac w k ho hac hst
         obtain ⟨i,i1,i2,i3,i4⟩:=hI.out
         have hst':St w0 w (pt b1 (.cells c.toArray e' (0,0))+(Rr+fr)):=by rw [hh,yH] at hst; exact hst
         obtain ⟨w',q1,q2⟩:=vO (P:=P) (off:=off) (List.replicate len zv.cells.toList).flatten 0 c w hst' (fun v hv=>hall v hv) (by omega)
         refine ⟨undef,w',_,.inl ?_,⟨rfl,rfl⟩,q2⟩
         have hzz:(Builtin.zeroCells zv.cells len).toList=(List.replicate len zv.cells.toList).flatten:=by rw [vE]
         unfold execOp
         simp only [ho,resolve,invoke,builtin,hac.ev h5,List.map_toArray,List.map_cons,List.map_nil,pure_bind]
         cases len with
         | zero=>omega
         | succ len=>simp [Builtin.clear_,run_underlying hu,zeroValue,typeInfo,i1,i4,hzz,q1,undef]
        refine EV.imp he ?_
        rintro u' L' ⟨rfl,rfl⟩ _
        exact ⟨V,_,Val.refl V,(yH _ _ _).symm,R.und,hH.put ho hV hh (RO.write hO hrep hall (by rw [repA_length,hzc.length.symm,Array.length_toList,hcs]; exact hc1))⟩
       ·rw [cond_eq_ite] at hr
        split at hr
        ·rename_i h0
         have h0:=beq_t' h0
         subst h0
         simp only [Option.some.injEq] at hr; subst hr
         unfold R at h6
         obtain ⟨b1,C,hV,_,rfl⟩:=h6
         exact same hu fun w=>⟨by simp [Builtin.clear_,run_underlying hu],fun ty=>by simp [Builtin.clear_,run_underlying hu]⟩
        ·cases hr
      ·cases hr
  ·cases hr
 ·cases hr
def rangeA (TT:Nat→Option TI) (H:T AO) (E:En) (nx t:Nat) (x:Operand):Option Eff:=match jF TT t with
 | some .string=>match yV E x with
  | some (.s len n)=>some (.p nx 0,H.put (.si len n 0) nx,Nat.succ nx)
  | _=>none
 | _=>none
theorem range_ok (hT:TOk P TT) (hE:RE V E g) (hH:RH P V H nx h) {t:Nat} {x:Operand} {r:Eff} (hr:rangeA TT H E nx t x=some r):EOk P w0 V h fr g (.range t x) r:=by
 unfold rangeA at hr
 split at hr
 ·rename_i hu
  split at hr
  ·rename_i len n hx
   simp only [Option.some.injEq] at hr; subst hr
   obtain ⟨v,h1,h2⟩:=yI hE hx
   unfold R at h2
   obtain ⟨hn,rfl⟩:=h2
   refine new_ok hH (C:=0) (mk:=fun b=>.pointer (some ⟨b,0,none⟩)) (ob:=.stringIter ⟨(bytesOf len n).toArray⟩ 0) ?_ (fun V' _=>⟨hn,rfl⟩) (fun b=>ptr_ok)
   intro o a w k ho ha hst
   refine ⟨.pointer (some ⟨w.heap.size,0,none⟩),w.alloc (.stringIter ⟨(bytesOf len n).toArray⟩ 0),_,.inl ?_,⟨_,rfl,rfl⟩,hst.alloc _⟩
   unfold execOp
   have hnew:(newObj (.stringIter ⟨(bytesOf len n).toArray⟩ 0)).run P w=.ok w.heap.size (w.alloc (.stringIter ⟨(bytesOf len n).toArray⟩ 0)):=rfl
   simp [ho,ha.ev h1,Instr.range,run_underlying (yP hT hu),hnew]
  ·cases hr
 ·cases hr
def nextA (H:T AO) (E:En) (nx:Nat) (it:Operand) (isS:Bool):Option Eff:=bif isS then (match yV E it with
 | some (.p id off)=>match off with
  | 0=>match H.get id with
   | some (.si len n pos)=>bif Nat.blt pos len then
     (bif and (Nat.blt (Nat.mod (Nat.div n (Nat.pow 256 pos)) 256) 128) (Nat.blt pos 9223372036854775808) then some (.tu [.b true,.i .i64 pos,.i .i32 (Nat.mod (Nat.div n (Nat.pow 256 pos)) 256)],H.put (.si len n (Nat.succ pos)) id,nx) else none)
     else some (.tu [.b false],H,nx)
   | _=>none
  | _=>none
 | _=>none) else none
theorem next_ok (hE:RE V E g) (hH:RH P V H nx h) {it:Operand} {isS:Bool} {r:Eff} (hr:nextA H E nx it isS=some r):EOk P w0 V h fr g (.next it isS) r:=by
 unfold nextA at hr
 rw [cond_eq_ite] at hr
 split at hr
 ·rename_i hs
  subst hs
  split at hr
  ·rename_i id off hx
   split at hr
   ·split at hr
    ·rename_i len n pos ho
     obtain ⟨v,h1,h2⟩:=yI hE hx
     obtain ⟨b,C,hV,rfl⟩:=R.mkNil h2
     obtain ⟨b',C',ob,Rr,hV',hh,hO⟩:=hH.has id _ ho
     rw [hV] at hV'
     simp only [Option.some.injEq,Prod.mk.injEq] at hV'
     obtain ⟨rfl,rfl⟩:=hV'
     obtain ⟨hn,rfl⟩:=hO.self
     have hat:∀ w,St w0 w (h+fr)→w.heap[b]?=some (.stringIter ⟨(bytesOf len n).toArray⟩ pos):=fun w hst=>by rw [hh,yH] at hst; exact hst.sat.left.pt.2
     have hg:∀ w,St w0 w (h+fr)→(getObj b).run P w=.ok (.stringIter ⟨(bytesOf len n).toArray⟩ pos) w:=fun w hst=>by simp [getObj,Sem.run,hat w hst]
     have hsz:(ByteArray.mk (bytesOf len n).toArray).size=len:=by show (bytesOf len n).toArray.size=len; simp [kZ]
     rw [cond_eq_ite] at hr
     split at hr
     ·rename_i hp
      have hp:pos<len:=Nat.le_of_ble_eq_true hp
      rw [cond_eq_ite] at hr
      split at hr
      ·rename_i hc
       simp only [Bool.and_eq_true,kU,decide_eq_true_eq] at hc
       obtain ⟨hc1,hc2⟩:=hc
       have hc1:n / 256 ^ pos % 256<128:=hc1
       simp only [Option.some.injEq] at hr; subst hr
       have hby:(ByteArray.get! ⟨(bytesOf len n).toArray⟩ (pos+0)).toNat=n / 256 ^ pos % 256:=by
        show (((bytesOf len n).toArray[pos+0]!):UInt8).toNat=_
        rw [Nat.add_zero]
        have:(bytesOf len n).toArray[pos]! = UInt8.ofNat (n / 256 ^ pos):=by
         have h3:=vC (n:=n) hp
         simp [h3]
        rw [this,byte_low]
       have hdec:Utf8.decode ⟨(bytesOf len n).toArray⟩ pos=(n / 256 ^ pos % 256,1):=by
        unfold Utf8.decode
        simp only [hby]
        rw [if_pos hc1]
       have he:EV P w0 (h+fr) g (.next it true) (fun u L'=>u=.tuple #[.bool true,.int .i64 pos,.int .i32 ((n / 256 ^ pos % 256:Nat):Int)]∧L'=pt b (.stringIter ⟨(bytesOf len n).toArray⟩ (pos+1))+(Rr+fr)):=by
        intro o a w k ho' ha hst
        have hset:(setObj b (.stringIter ⟨(bytesOf len n).toArray⟩ (pos+1))).run P w=.ok () { w with heap:=w.heap.setIfInBounds b (.stringIter ⟨(bytesOf len n).toArray⟩ (pos+1)) }:=by simp [setObj,Sem.run,hat w hst]
        have hst':St w0 w (pt b (.stringIter ⟨(bytesOf len n).toArray⟩ pos)+(Rr+fr)):=by rw [hh,yH] at hst; exact hst
        refine ⟨_,_,_,.inl ?_,⟨rfl,rfl⟩,setMap hst' (hat w hst)⟩
        unfold execOp
        simp [ho',ha.ev h1,Instr.next,hg w hst,hsz,hp,hdec,hset,goInt]
       refine EV.imp he ?_
       rintro u L' ⟨rfl,rfl⟩ _
       refine ⟨V,pt b (.stringIter ⟨(bytesOf len n).toArray⟩ (pos+1))+Rr,Val.refl V,(yH _ _ _).symm,?_,hH.put ho hV hh ⟨hn,rfl⟩⟩
       show R V (.tu _) _
       unfold R
       refine ⟨[_,_,_],RL.mk (by unfold R; rfl) (RL.mk (R.mkInt' (k:=.i64) (by simp only [pwK]; omega) (kW (k:=.i64) (by simpa only [hfK] using hc2))) (RL.mk (R.mkInt' (k:=.i32) (u:=n / 256 ^ pos % 256) (by simp only [pwK]; omega) (kW (k:=.i32) (by simp only [hfK]; omega))) (RL.nil.2 O))),rfl⟩
      ·cases hr
     ·rename_i hp
      have hp:¬ pos<len:=fun h=>hp (Nat.ble_eq_true_of_le h)
      simp only [Option.some.injEq] at hr; subst hr
      have he:EV P w0 (h+fr) g (.next it true) (fun u L'=>u=.tuple #[.bool false]∧L'=h+fr):=by
       intro o a w k ho' ha hst
       refine ⟨_,_,_,.inl ?_,⟨rfl,rfl⟩,hst⟩
       unfold execOp
       simp [ho',ha.ev h1,Instr.next,hg w hst,hsz,hp]
      refine EV.imp he ?_
      rintro u L' ⟨rfl,rfl⟩ _
      refine ⟨V,h,Val.refl V,rfl,?_,hH⟩
      show R V (.tu _) _
      unfold R
      exact ⟨[_],RL.mk (by unfold R; rfl) (RL.nil.2 O),rfl⟩
    ·cases hr
   ·cases hr
  ·cases hr
 ·cases hr
end
end
end Ab
namespace Ab
noncomputable section
section
variable {P:Program} {TT:Nat→Option TI} {V:Val} {E:En} {g:Env} {w0:World} {H:T AO} {nx:Nat} {h fr:Hp}
def intsEq :List AV→List AV→Bool
 | [],[]=>true
 | .i k u::l,.i k' u'::m=>bif and (decide (k=k')) (Nat.beq u u') then intsEq l m else false
 | _,_=>false
theorem intsEq_ok :∀ {xs ys:List AV},intsEq xs ys=true→ys=xs∧∀ a∈xs,∃ k u,a=.i k u
 | [],[],_=>⟨rfl,fun a h=>by cases h⟩
 | [],_::_,h=>by cases h
 | x::l,[],h=>by cases x<;>cases h
 | x::l,y::m,h=>by
  cases x<;>cases y<;>first|(simp only [intsEq] at h; cases h; done)|skip
  rename_i k u k' u'
  simp only [intsEq,cond_eq_ite,Bool.and_eq_true,decide_eq_true_eq,Nat.beq_eq] at h
  split at h
  ·rename_i hc
   obtain ⟨rfl,rfl⟩:=hc
   obtain ⟨h1,h2⟩:=intsEq_ok h
   refine ⟨by rw [h1],fun a ha=>?_⟩
   rcases List.mem_cons.1 ha with rfl|ha
   ·exact ⟨_,_,rfl⟩
   ·exact h2 a ha
  ·cases h
theorem ints_vals :∀ {xs:List AV} {us:List Value},RL V xs us→(∀ a∈xs,∃ k u,a=.i k u)→∀ {vs:List Value},RL V xs vs→vs=us∧∀ v∈us,∃ k n,v=.int k n
 | [],us,h,_,vs,h'=>by rw [RL.nil.1 h,RL.nil.1 h']; exact ⟨rfl,fun v hv=>by cases hv⟩
 | a::xs,us,h,hi,vs,h'=>by
  obtain ⟨u,us',rfl,h1,h2⟩:=RL.cons.1 h
  obtain ⟨v,vs',rfl,h3,h4⟩:=RL.cons.1 h'
  obtain ⟨k,n,rfl⟩:=hi a (by simp)
  obtain ⟨_,rfl⟩:=h1.int
  obtain ⟨_,rfl⟩:=h3.int
  obtain ⟨e1,e2⟩:=ints_vals h2 (fun a ha=>hi a (List.mem_cons_of_mem _ ha)) h4
  refine ⟨by rw [e1],fun v hv=>?_⟩
  rcases List.mem_cons.1 hv with rfl|hv
  ·exact ⟨_,_,rfl⟩
  ·exact e2 v hv
theorem sameBits_ints {us:List Value} (h:∀ v∈us,∃ k n,v=.int k n) (n:Nat):Instr.sameBits (n+1) (.agg us.toArray) (.agg us.toArray)=true:=by
 simp only [Instr.sameBits,beq_self_eq_true,Bool.true_and]
 rw [List.all_eq_true]
 rintro ⟨x,y⟩ hxy
 have hz:x=y∧x∈us:=by
  obtain ⟨i,hi⟩:=List.getElem?_of_mem hxy
  rw [List.getElem?_zip_eq_some] at hi
  have h1:=hi.1; have h2:=hi.2
  rw [h1] at h2
  simp only [Option.some.injEq] at h2
  exact ⟨h2,List.mem_of_getElem? h1⟩
 obtain ⟨rfl,hm⟩:=hz
 obtain ⟨k,m,rfl⟩:=h x hm
 simp [Instr.sameBits]
def intFld (TT:Nat→Option TI) (xs:List AV) (f:Field):Bool:=match jF TT f.type with
 | some (.int _)=>(match nthA xs f.offset with
  | some _=>true
  | none=>false)
 | _=>false
theorem intFld_ok (hT:TOk P TT) {xs:List AV} {us:List Value} (hR:RL V xs us) {f:Field} (h:intFld TT xs f=true):∃ d v,P.underlying f.type=some (.int d)∧us[f.offset]?=some v:=by
 unfold intFld at h
 split at h
 ·rename_i d hd
  split at h
  ·rename_i a ha
   rw [nthA_eq] at ha
   obtain ⟨v,hv,_⟩:=hR.get ha
   exact ⟨d,v,yP hT hd,hv⟩
  ·exact absurd h (by simp)
 ·exact absurd h (by simp)
def keyG (TT:Nat→Option TI) (xs:List AV):List Field→Bool
 | []=>true
 | f::fs=>bif and (not (f.name == "_")) (intFld TT xs f) then keyG TT xs fs else false
theorem keyG_run (hT:TOk P TT) {kt:TypeId} {fs:Array Field} (hu:P.underlying kt=some (.struct fs)) {xs:List AV} {us:List Value} (hR:RL V xs us) (hk:keyG TT xs fs.toList=true) (hall:∀ v∈us,∃ k n,v=.int k n) (em:Bool) (w:World) :
  (Instr.checkKey em 10000 kt (.agg us.toArray)).run P w=.ok () w:=by
 have hj:∀ (fs:List Field),keyG TT xs fs=true→∀ f∈fs,f.name ≠ "_" ∧ ∃ d v,P.underlying f.type=some (.int d)∧us[f.offset]?=some v:=by
  intro fs
  induction fs with
  | nil=>intro _ f hf; cases hf
  | cons f0 fs ih =>
   intro h f hf
   unfold keyG at h
   rw [cond_eq_ite] at h
   split at h
   ·rename_i hc
    rw [Bool.and_eq_true] at hc
    obtain ⟨h1,h2⟩:=hc
    rcases List.mem_cons.1 hf with rfl|hf
    ·exact ⟨by simpa using h1,intFld_ok hT hR h2⟩
    ·exact ih h f hf
   ·exact absurd h (by simp)
 rw [show (10000:Nat)=9999+1 from rfl,Instr.checkKey]
 simp only [Sem.run_bind,run_underlying hu,Result.andThen_ok]
 rw [← Array.forIn_toList]
 have hj:=hj fs.toList hk
 generalize fs.toList=L at hj
 induction L with
 | nil=>simp
 | cons f L ih =>
  obtain ⟨hn,d,v,hd,hv⟩:=hj f (by simp)
  have p1:(part f.type us.toArray f.offset).run P w=.ok v w:=run_part_plain w (by unfold Program.plainKey; rw [hd]) (by simpa using hv)
  have p2:(Instr.checkKey em 9999 f.type v).run P w=.ok () w:=by
   obtain ⟨k,n,rfl⟩:=hall v (List.mem_of_getElem? hv)
   rw [show (9999:Nat)=9998+1 from rfl,Instr.checkKey]
   simp [run_underlying hd]
  simp only [List.forIn_cons,Sem.run_bind,hn,ne_eq,not_false_eq_true,if_true,Result.andThen_ok,p1,p2,Sem.run_pure]
  exact ih (fun y hy=>hj y (by simp [hy]))
def findG (TT:Nat→Option TI) (fs:List Field) (xs:List AV):List (AV × AV × Nat)→Nat→Option (Option (Nat × AV))
 | [],_=>some none
 | (x,v,_)::l,i=>match x with
  | .ag ys=>match fieldsEqA TT xs ys fs with
   | none=>none
   | some r=>bif r then (bif intsEq xs ys then some (some (i,v)) else none) else findG TT fs xs l (Nat.succ i)
  | _=>none
theorem run_equalG {kt:TypeId} {fs:Array Field} (hu:P.underlying kt=some (.struct fs)) (hp:P.stoodInHeld kt=false) {us vs:List Value} {r:Bool} (he:fieldsEq P us.toArray vs.toArray fs.toList=some r) (w:World):(Op.equal kt (.agg us.toArray) (.agg vs.toArray)).run P w=.ok r w:=by
 have hf:P.fieldsOf kt=fs:=by simp [Program.fieldsOf,hu]
 have hu':P.underlying kt=some (.struct (P.fieldsOf kt)):=by rw [hf]; exact hu
 have:=run_equalIn_agg (P:=P) w 9999 kt us.toArray vs.toArray hu' hp
 rw [hf,run_fieldsEq 9998 w he] at this
 exact this
theorem findG_ok (hT:TOk P TT) {kt:TypeId} {fs:Array Field} (hu:P.underlying kt=some (.struct fs)) (hp:P.stoodInHeld kt=false) {xs:List AV} {us:List Value} (hR:RL V xs us) (w:World):∀ {l:List (AV × AV × Nat)} {es:List MapEntry} {i:Nat} {r:Option (Nat × AV)},RM V l es→findG TT fs.toList xs l i=some r →
  (r=none∧(Instr.findAsking kt (.agg us.toArray) es i).run P w=.ok none w) ∨
  ∃ j a e m,r=some (j,a)∧(Instr.findAsking kt (.agg us.toArray) es i).run P w=.ok (some (j,e.val)) w∧j=i+m∧es[m]?=some e∧e.key=.agg us.toArray∧R V a e.val∧(∀ v∈us,∃ k n,v=.int k n)∧∃ n,l[m]?=some (.ag xs,a,n)∧e.born=n
 | [],es,i,r,h,hf=>by
  simp only [findG,Option.some.injEq] at hf; subst hf
  rw [show es=[] from h]
  exact .inl ⟨rfl,rfl⟩
 | (x,v,n)::l,es,i,r,h,hf=>by
  obtain ⟨key,val,es',rfl,h2,h3,h4⟩:=h
  simp only [findG] at hf
  split at hf
  ·rename_i ys
   unfold R at h2
   obtain ⟨vs,k1,k2,rfl⟩:=h2
   split at hf
   ·cases hf
   ·rename_i q hq
    have heq:=run_equalG hu hp (fieldsEqA_ok hT hR k1 hq) w
    cases q with
    | true =>
     rw [cond_true,cond_eq_ite] at hf
     split at hf
     ·rename_i hi
      simp only [Option.some.injEq] at hf; subst hf
      obtain ⟨e1,e2⟩:=intsEq_ok hi
      subst e1
      obtain ⟨e3,e4⟩:=ints_vals hR e2 k1
      subst e3
      exact .inr ⟨i,v,_,0,rfl,by simp [Instr.findAsking,heq],rfl,rfl,rfl,h3,e4,n,rfl,rfl⟩
     ·cases hf
    | false =>
     rw [cond_false] at hf
     rcases findG_ok hT hu hp hR w h4 hf with ⟨g1,g2⟩|⟨j,a,e,m,g1,g2,g3,g4,g5,g6,g7,n',g8,g9⟩
     ·exact .inl ⟨g1,by simp [Instr.findAsking,heq,g2]⟩
     ·exact .inr ⟨j,a,e,m+1,g1,by simp [Instr.findAsking,heq,g2],by omega,by simpa using g4,g5,g6,g7,n',by simpa using g8,g9⟩
  ·cases hf
theorem ev_lookupG {t kt e:TypeId} (hu:P.underlying t=some (.map kt e)) {kv:Value} (hck:∀ b w,(Instr.checkKey b 10000 kt kv).run P w=.ok () w) {sz by':Nat} {z:Value} (hi:Inf P e sz by' z) {x ix:Operand} {mv:Option Nat} {es:List MapEntry} {clock:Nat} {L:Hp} {r:Option (Nat × Value)}
  (hx:ev g x=some (.map mv)) (hix:ev g ix=some kv) (hm:mv=none∧es=[]∨∃ b,mv=some b∧∀ w,St w0 w L→w.heap[b]?=some (.map es.toArray clock)) (hfk:∀ w,(Instr.findKey kt kv es).run P w=.ok r w) (ok:Bool) :
  EV P w0 L g (.lookup t x ix ok) fun u L'=>L'=L∧u=(if ok then .tuple #[valOr r z,.bool r.isSome] else valOr r z):=by
 intro o a w k ho ha hst
 obtain ⟨i,i1,i2,i3,i4⟩:=hi.out
 refine ⟨_,w,L,.inl ?_,⟨rfl,rfl⟩,hst⟩
 unfold execOp
 simp only [ho,ha.ev hx,ha.ev hix]
 rcases hm with ⟨rfl,rfl⟩|⟨b,rfl,hb⟩
 ·cases r with
  | none=>cases ok<;>simp [Instr.lookup,run_underlying hu,hck,hfk,zeroValue,typeInfo,i1,i4,valOr]
  | some p=>cases ok<;>simp [Instr.lookup,run_underlying hu,hck,hfk,valOr]
 ·have hg:=MapKept.run_getObj_map (P:=P) (hb w hst)
  cases r with
  | none=>cases ok<;>simp [Instr.lookup,run_underlying hu,hg,hck,hfk,zeroValue,typeInfo,i1,i4,valOr]
  | some p=>cases ok<;>simp [Instr.lookup,run_underlying hu,hg,hck,hfk,valOr]
def lookGA (TT:Nat→Option TI) (H:T AO) (E:En) (nx t:Nat) (x ix:Operand) (ok:Bool):Option Eff:=match jF TT t with
 | some (.map kt e)=>match jF TT kt with
  | some (.struct fs)=>match yV E ix with
   | some (.ag xs)=>match zerT TT e with
    | none=>none
    | some z=>bif and (and (keyG TT xs fs.toList) (flatT TT kt)) (intsEq xs xs) then match yV E x with
     | some .nm=>some (bif ok then .tu [z,.b false] else z,H,nx)
     | some (.m id)=>match H.get id with
      | some (.mp es _)=>match findG TT fs.toList xs es 0 with
       | none=>none
       | some none=>some (bif ok then .tu [z,.b false] else z,H,nx)
       | some (some (_,v))=>some (bif ok then .tu [v,.b true] else v,H,nx)
      | _=>none
     | _=>none
     else none
   | _=>none
  | _=>none
 | _=>none
theorem lookG_ok (hT:TOk P TT) (hE:RE V E g) (hH:RH P V H nx h) {t:Nat} {x ix:Operand} {ok:Bool} {r:Eff} (hr:lookGA TT H E nx t x ix ok=some r):EOk P w0 V h fr g (.lookup t x ix ok) r:=by
 unfold lookGA at hr
 split at hr
 ·rename_i kt e hu
  split at hr
  ·rename_i fs hk
   split at hr
   ·rename_i xs hix
    split at hr
    ·cases hr
    ·rename_i z hz
     rw [cond_eq_ite] at hr
     split at hr
     ·rename_i hc
      simp only [Bool.and_eq_true] at hc
      obtain ⟨⟨hc1,hc2⟩,hc3⟩:=hc
      obtain ⟨m,by',zv,hm,_,hI,_,hR⟩:=zer_ok hT hz
      obtain ⟨kv,h3,h4⟩:=yI hE hix
      unfold R at h4
      obtain ⟨us,k1,k2,rfl⟩:=h4
      have hu':=yP hT hu
      have hk':=yP hT hk
      have hints:=(ints_vals k1 (intsEq_ok hc3).2 k1).2
      have hck:=keyG_run hT hk' k1 hc1 hints
      have hp:=(flat_ok hT hc2).1
      have hl:∀ {mv:Option Nat} {es:List MapEntry} {clock:Nat} {fr':Option (Nat × Value)} {av:AV} {bv:Bool},ev g x=some (.map mv)→(mv=none∧es=[]∨∃ b,mv=some b∧∀ w,St w0 w (h+fr)→w.heap[b]?=some (.map es.toArray clock)) →
        (∀ w,(Instr.findKey kt (.agg us.toArray) es).run P w=.ok fr' w)→fr'.isSome=bv→R V av (valOr fr' zv)→r=(bif ok then .tu [av,.b bv] else av,H,nx)→EOk P w0 V h fr g (.lookup t x ix ok) r:=by
       rintro mv es clock fr' av bv hx hmv hf rfl hav rfl
       refine EV.imp (ev_lookupG (P:=P) (w0:=w0) (L:=h+fr) hu' hck hI hx h3 hmv hf ok) ?_
       rintro u' L' ⟨rfl,rfl⟩ _
       refine ⟨V,h,Val.refl V,rfl,?_,hH⟩
       cases ok with
       | false=>rw [if_neg (by decide)]; exact hav
       | true =>
        rw [if_pos O]
        show R V (.tu [av,.b _]) _
        unfold R
        exact ⟨_,RL.mk hav (RL.mk (by unfold R; rfl) (RL.nil.2 O)),rfl⟩
      have hfe:∀ es w,(Instr.findKey kt (.agg us.toArray) es).run P w=(Instr.findAsking kt (.agg us.toArray) es).run P w:=fun es w=>run_findKey_eq w (by rw [hk']) _ es
      split at hr
      ·rename_i hx
       obtain ⟨mv,h5,h6⟩:=yI hE hx
       unfold R at h6
       subst h6
       exact hl (es:=[]) (clock:=0) (fr':=none) h5 (.inl ⟨rfl,rfl⟩) (fun w=>by rw [hfe]; rfl) O (hR V) (by simpa using hr.symm)
      ·rename_i id hx
       obtain ⟨mv,h5,h6⟩:=yI hE hx
       split at hr
       ·rename_i es clock ho
        obtain ⟨b,C,es',Rr,rfl,hV,hh,hM,hO,hat⟩:=mp_at (w0:=w0) (fr:=fr) hH ho h6
        split at hr
        ·cases hr
        ·rename_i hfi
         refine hl (es:=es') (fr':=none) h5 (.inr ⟨b,rfl,hat⟩) (fun w=>?_) O (hR V) (by simpa using hr.symm)
         rw [hfe]
         rcases findG_ok hT hk' hp k1 w hM hfi with ⟨_,g2⟩|⟨j,a,e,m,g1,_⟩
         ·exact g2
         ·cases g1
        ·rename_i j v hfi
         have key:∃ e:MapEntry,(∀ w,(Instr.findAsking kt (.agg us.toArray) es').run P w=.ok (some (j,e.val)) w)∧R V v e.val:=by
          have pick:=fun w=>findG_ok hT hk' hp k1 w hM hfi
          rcases pick default with ⟨g1,_⟩|⟨j2,a2,e2,m2,g1,g2,g3,g4,g5,g6,_⟩
          ·cases g1
          ·simp only [Option.some.injEq,Prod.mk.injEq] at g1
           obtain ⟨rfl,rfl⟩:=g1
           refine ⟨e2,fun w=>?_,g6⟩
           rcases pick w with ⟨q1,_⟩|⟨j3,a3,e3,m3,q1,q2,q3,q4,_⟩
           ·cases q1
           ·simp only [Option.some.injEq,Prod.mk.injEq] at q1
            obtain ⟨rfl,rfl⟩:=q1
            have:m2=m3:=by omega
            subst this
            rw [g4] at q4
            simp only [Option.some.injEq] at q4; subst q4
            exact q2
         obtain ⟨e,hrun,hRe⟩:=key
         exact hl (es:=es') h5 (.inr ⟨b,rfl,hat⟩) (fun w=>by rw [hfe]; exact hrun w) O hRe (by simpa using hr.symm)
       ·cases hr
      ·cases hr
     ·cases hr
   ·cases hr
  ·cases hr
 ·cases hr
def updGA (TT:Nat→Option TI) (fs:List Field) (xs:List AV) (a:AV) (es:List (AV × AV × Nat)) (clock:Nat):Option AO:=match findG TT fs xs es 0 with
 | none=>none
 | some none=>some (.mp (es++[(.ag xs,a,clock)]) (Nat.succ clock))
 | some (some (j,_))=>match es[j]? with
  | none=>none
  | some (_,_,n)=>some (.mp (es.set j (.ag xs,a,n)) clock)
def mapUGA (TT:Nat→Option TI) (H:T AO) (E:En) (nx t:Nat) (x ix y:Operand):Option Eff:=match jF TT t with
 | some (.map kt e)=>match jF TT kt with
  | some (.struct fs)=>match yV E ix with
   | some (.ag xs)=>match yV E y with
    | none=>none
    | some a=>bif and (and (keyG TT xs fs.toList) (flatT TT kt)) (intsEq xs xs) then match yV E x with
     | some (.m id)=>match H.get id with
      | some (.mp es clock)=>match updGA TT fs.toList xs a es clock with
       | none=>none
       | some o=>some (wC,H.put o id,nx)
      | _=>none
     | _=>none
     else none
   | _=>none
  | _=>none
 | _=>none
theorem ev_mapUpdG {t kt e:TypeId} (hu:P.underlying t=some (.map kt e)) {kv:Value} (hck:∀ b w,(Instr.checkKey b 10000 kt kv).run P w=.ok () w) (hsb:Instr.sameBits 10000 kv kv=true) {x ix y:Operand} {b:Nat} {es:List MapEntry} {clock:Nat} {v:Value} {Rr:Hp}
  (hx:ev g x=some (.map (some b))) (hix:ev g ix=some kv) (hy:ev g y=some v) {r:Option (Nat × Value)} (hfk:∀ w,(Instr.findKey kt kv es).run P w=.ok r w) (hj:∀ p,r=some p→∃ en,es[p.1]?=some en∧en.key=kv) :
  EV P w0 (pt b (.map es.toArray clock)+Rr) g (.mapUpdate t x ix y) fun u L'=>u=undef∧L'=pt b (match r with
   | none=>.map (es++[({ key:=kv,val:=v,born:=clock }:MapEntry)]).toArray (clock+1)
   | some (j,_)=>.map (es.toArray.modify j fun e=>{ e with key:=kv,val:=v }) clock)+Rr:=by
 intro o a w k ho ha hst
 have hb:=hst.sat.left.pt.2
 have hg:=MapKept.run_getObj_map (P:=P) hb
 have hfk:=hfk w
 refine ⟨undef,{ w with heap:=w.heap.setIfInBounds b _ },_,.inr ⟨?_,rfl⟩,⟨rfl,rfl⟩,setMap hst hb⟩
 unfold execOp
 simp only [ho,ha.ev hx,ha.ev hix,ha.ev hy]
 cases r with
 | none=>simp [Instr.mapUpdate,run_underlying hu,hg,hck,hfk,MapKept.run_setObj_map _ hb]
 | some p =>
  obtain ⟨j,v'⟩:=p
  obtain ⟨en,he1,he2⟩:=hj _ rfl
  have hst:(Instr.keyThatStays kv kv).run P w=.ok kv w:=by simp [Instr.keyThatStays,hsb]
  simp [Instr.mapUpdate,run_underlying hu,hg,hck,hfk,he1,he2,hst,MapKept.run_setObj_map _ hb]
theorem RM.setG {xs:List AV} {a b:AV} {n:Nat} {e:MapEntry} {v kv:Value} (hR:R V b v) (hk:R V (.ag xs) kv):∀ {l:List (AV × AV × Nat)} {es:List MapEntry} {m:Nat},RM V l es→l[m]?=some (.ag xs,a,n)→es[m]?=some e →
  RM V (l.set m (.ag xs,b,n)) (es.set m { e with key:=kv,val:=v })
 | [],es,m,h,hl,he=>by cases hl
 | x::l,es,0,h,hl,he=>by
  simp only [List.getElem?_cons_zero,Option.some.injEq] at hl; subst hl
  obtain ⟨key,val,es',rfl,h2,h3,h4⟩:=h
  simp only [List.getElem?_cons_zero,Option.some.injEq] at he; subst he
  exact ⟨_,_,_,rfl,hk,hR,h4⟩
 | (x,y,z)::l,es,m+1,h,hl,he=>by
  obtain ⟨key,val,es',rfl,h2,h3,h4⟩:=h
  exact ⟨key,val,_,rfl,h2,h3,RM.setG hR hk h4 (by simpa using hl) (by simpa using he)⟩
theorem mapUG_ok (hT:TOk P TT) (hE:RE V E g) (hH:RH P V H nx h) {t:Nat} {x ix y:Operand} {r:Eff} (hr:mapUGA TT H E nx t x ix y=some r):EOk P w0 V h fr g (.mapUpdate t x ix y) r:=by
 unfold mapUGA at hr
 split at hr
 ·rename_i kt e hu
  split at hr
  ·rename_i fs hk
   split at hr
   ·rename_i xs hix
    split at hr
    ·cases hr
    ·rename_i a hy
     rw [cond_eq_ite] at hr
     split at hr
     ·rename_i hc
      simp only [Bool.and_eq_true] at hc
      obtain ⟨⟨hc1,hc2⟩,hc3⟩:=hc
      split at hr
      ·rename_i id hx
       split at hr
       ·rename_i es clock ho
        split at hr
        ·cases hr
        ·rename_i o' hup
         simp only [Option.some.injEq] at hr; subst hr
         obtain ⟨kv,h3,h4⟩:=yI hE hix
         have h4':=h4
         unfold R at h4
         obtain ⟨us,k1,k2,rfl⟩:=h4
         obtain ⟨mv,h5,h6⟩:=yI hE hx
         obtain ⟨v,h7,h8⟩:=yI hE hy
         obtain ⟨b,C,es',Rr,rfl,hV,hh,hM,hO,hat⟩:=mp_at (w0:=w0) (fr:=fr) hH ho h6
         have hu':=yP hT hu
         have hk':=yP hT hk
         have hints:=(ints_vals k1 (intsEq_ok hc3).2 k1).2
         have hck:=keyG_run hT hk' k1 hc1 hints
         have hp:=(flat_ok hT hc2).1
         have hsb:=sameBits_ints hints 9999
         have hfe:∀ w,(Instr.findKey kt (.agg us.toArray) es').run P w=(Instr.findAsking kt (.agg us.toArray) es').run P w:=fun w=>run_findKey_eq w (by rw [hk']) _ es'
         have hL:h+fr=pt b (.map es'.toArray clock)+(Rr+fr):=by rw [hh,yH]
         have fin:∀ {ob':Obj},EV P w0 (h+fr) g (.mapUpdate t x ix y) (fun u L'=>u=undef∧L'=pt b ob'+(Rr+fr))→RO P V C o' ob'→EOk P w0 V h fr g (.mapUpdate t x ix y) (wC,H.put o' id,nx):=by
          intro ob' he hO'
          refine EV.imp he ?_
          rintro u' L' ⟨rfl,rfl⟩ _
          exact ⟨V,pt b ob'+Rr,Val.refl V,(yH _ _ _).symm,R.und,hH.put ho hV hh hO'⟩
         unfold updGA at hup
         split at hup
         ·cases hup
         ·rename_i hfi
          simp only [Option.some.injEq] at hup; subst hup
          refine fin (ob':=.map (es'++[({ key:=.agg us.toArray,val:=v,born:=clock }:MapEntry)]).toArray (clock+1)) ?_ ⟨_,rfl,RM.append hM ⟨_,_,[],rfl,h4',h8,rfl⟩⟩
          rw [hL]
          refine ev_mapUpdG (r:=none) hu' hck hsb h5 h3 h7 (fun w=>?_) (fun p hp=>by cases hp)
          rw [hfe]
          rcases findG_ok hT hk' hp k1 w hM hfi with ⟨_,g2⟩|⟨j,a,e,m,g1,_⟩
          ·exact g2
          ·cases g1
         ·rename_i j v0 hfi
          split at hup
          ·cases hup
          ·rename_i q1 q2 n hj
           simp only [Option.some.injEq] at hup; subst hup
           have pick:=fun w=>findG_ok hT hk' hp k1 w hM hfi
           rcases pick default with ⟨g1,_⟩|⟨j2,a2,en,m2,g1,g2,g3,g4,g5,g6,g7,n',g8,g9⟩
           ·cases g1
           ·simp only [Option.some.injEq,Prod.mk.injEq] at g1
            obtain ⟨rfl,rfl⟩:=g1
            have g3:j=m2:=by omega
            subst g3
            rw [g8] at hj
            simp only [Option.some.injEq,Prod.mk.injEq] at hj
            obtain ⟨_,_,rfl⟩:=hj
            refine fin (ob':=.map (es'.set j { en with key:=.agg us.toArray,val:=v }).toArray clock) ?_ ⟨_,rfl,RM.setG h8 h4' hM g8 g4⟩
            rw [hL]
            refine EV.imp (ev_mapUpdG (r:=some (j,en.val)) hu' hck hsb h5 h3 h7 (fun w=>?_) (fun p hp=>by cases hp; exact ⟨en,g4,g5⟩)) ?_
            ·rw [hfe]
             rcases pick w with ⟨q1,_⟩|⟨j3,a3,e3,m3,q1,q2,q3,q4,_⟩
             ·cases q1
             ·simp only [Option.some.injEq,Prod.mk.injEq] at q1
              obtain ⟨rfl,rfl⟩:=q1
              have:j=m3:=by omega
              subst this
              rw [g4] at q4
              simp only [Option.some.injEq] at q4; subst q4
              exact q2
            ·rintro u' L' ⟨rfl,rfl⟩ _
             refine ⟨rfl,?_⟩
             simp only [modify_set _ _ _ _ g4]
       ·cases hr
      ·cases hr
     ·cases hr
   ·cases hr
  ·cases hr
 ·cases hr
def lookAny (TT:Nat→Option TI) (H:T AO) (E:En) (nx t:Nat) (x ix:Operand) (ok:Bool):Option Eff:=match lookA TT H E nx t x ix ok with
 | some r=>some r
 | none=>lookGA TT H E nx t x ix ok
def mapUAny (TT:Nat→Option TI) (H:T AO) (E:En) (nx t:Nat) (x ix y:Operand):Option Eff:=match mapUA TT H E nx t x ix y with
 | some r=>some r
 | none=>mapUGA TT H E nx t x ix y
theorem lookAny_ok (hT:TOk P TT) (hE:RE V E g) (hH:RH P V H nx h) {t:Nat} {x ix:Operand} {ok:Bool} {r:Eff} (hr:lookAny TT H E nx t x ix ok=some r):EOk P w0 V h fr g (.lookup t x ix ok) r:=by
 unfold lookAny at hr
 split at hr
 ·rename_i r' hr'
  simp only [Option.some.injEq] at hr; subst hr
  exact look_ok hT hE hH hr'
 ·exact lookG_ok hT hE hH hr
theorem mapUAny_ok (hT:TOk P TT) (hE:RE V E g) (hH:RH P V H nx h) {t:Nat} {x ix y:Operand} {r:Eff} (hr:mapUAny TT H E nx t x ix y=some r):EOk P w0 V h fr g (.mapUpdate t x ix y) r:=by
 unfold mapUAny at hr
 split at hr
 ·rename_i r' hr'
  simp only [Option.some.injEq] at hr; subst hr
  exact mapU_ok hT hE hH hr'
 ·exact mapUG_ok hT hE hH hr
def lenMA (TT:Nat→Option TI) (H:T AO) (nx t:Nat) (a:AV):Option Eff:=match jF TT t with
 | some (.map _ _)=>match a with
  | .nm=>some (.i .i64 0,H,nx)
  | .m id=>match H.get id with
   | some (.mp es _)=>match lenV es.length with
    | some v=>some (v,H,nx)
    | none=>none
   | _=>none
  | _=>none
 | _=>none
theorem lenM_ok (hT:TOk P TT) (hE:RE V E g) (hH:RH P V H nx h) {t:Nat} {x:Operand} {a:AV} {r:Eff} (ha:yV E x=some a) (hr:lenMA TT H nx t a=some r) :
  EOk P w0 V h fr g (.call { callee:=.builtin .len,args:=#[x],argTypes:=#[t] }) r:=by
 obtain ⟨mv,h5,h6⟩:=yI hE ha
 have same:∀ {n:Nat} {av:AV},R V av (.int .i64 (n:Int))→(∀ w,St w0 w (h+fr)→∀ ty,(Builtin.len_ #[t] ty #[mv]).run P w=.ok (.int .i64 (n:Int)) w)→EOk P w0 V h fr g (.call { callee:=.builtin .len,args:=#[x],argTypes:=#[t] }) (av,H,nx):=by
  intro n av hav hc
  have he:EV P w0 (h+fr) g (.call { callee:=.builtin .len,args:=#[x],argTypes:=#[t] }) (fun u' L'=>u'=.int .i64 (n:Int)∧L'=h+fr):=by
   intro o ac w k ho hac hst
   refine ⟨_,w,_,.inl ?_,⟨rfl,rfl⟩,hst⟩
   unfold execOp
   simp only [ho,resolve,invoke,builtin,hac.ev h5,List.map_toArray,List.map_cons,List.map_nil,pure_bind]
   simp [hc w hst]
  refine EV.imp he ?_
  rintro u' L' ⟨rfl,rfl⟩ _
  exact ⟨V,h,Val.refl V,rfl,hav,hH⟩
 unfold lenMA at hr
 split at hr
 ·rename_i kt e hu
  have hu:=yP hT hu
  split at hr
  ·simp only [Option.some.injEq] at hr; subst hr
   unfold R at h6; subst h6
   exact same (n:=0) (R.mkInt' (k:=.i64) (by simp [pwK]) (by decide)) fun w _ ty=>by simp [Builtin.len_,run_underlying hu,goInt]
  ·rename_i id
   split at hr
   ·rename_i es clock ho
    split at hr
    ·rename_i v hv
     simp only [Option.some.injEq] at hr; subst hr
     obtain ⟨b1,C,es',Rr,rfl,hV,hh,hM,hO,hat⟩:=mp_at (w0:=w0) (fr:=fr) hH ho h6
     refine same (lenV_ok hv) fun w hst ty=>?_
     have hl:=RM.length hM
     simp [Builtin.len_,run_underlying hu,MapKept.run_getObj_map (hat w hst),goInt,hl]
    ·cases hr
   ·cases hr
  ·cases hr
 ·cases hr
end
end
end Ab
namespace Ab
noncomputable section
abbrev vA :=List Deferred→Exit→Env→Hp→Prop
def vY (a:Act):Act:={ a with defers:=[] }
def liftX (n:Nat) (w0:World) (Q:vA):Exit→Act→World→Prop:=fun e a w=>∃ g L,Q a.defers e g L∧jE n (vY a) g∧St w0 w L
def vD (P:Program) (n:Nat) (w0:World) (c:Code) (Q:vA) (ds:List Deferred) (g:Env) (L:Hp):Prop :=
 ∀ a w,jE n (vY a) g→a.defers=ds→St w0 w L→c.wp P (liftX n w0 Q) a w
def HoldXL (P:Program) (n:Nat) (w0:World) (ops:Array Oper) (rest:List Oper) (Q:vA) (ds:List Deferred) (g:Env) (L:Hp):Prop :=
 ∀ a w,jE n (vY a) g→a.defers=ds→St w0 w L→wpList P ops (liftX n w0 Q) rest a w
def seqX (P:Program) (n:Nat) (w0:World) (y:Code) (Q:vA):vA
 | ds,.normal,g,L=>vD P n w0 y Q ds g L
 | ds,e,g,L=>Q ds e g L
def blockX (id:Nat) (Q:vA):vA
 | ds,.exit id',g,L=>if id'=id then Q ds .normal g L else Q ds (.exit id') g L
 | ds,e,g,L=>Q ds e g L
def loopX (I:Nat→List Deferred→Env→Hp→Prop) (m:Nat) (Q:vA):vA
 | ds,.normal,g,L=>∃ m',m'<m∧I m' ds g L
 | ds,e,g,L=>Q ds e g L
theorem bare_put (a:Act) (dst:Option Nat) (v:Value):vY (a.put dst v)=(vY a).put dst v:=by cases dst<;>rfl
theorem vG (a:Act) (dst:Option Nat) (v:Value):(a.put dst v).defers=a.defers:=by cases dst<;>rfl
section
variable {P:Program} {n:Nat} {w0:World} {Q:vA} {ds:List Deferred} {g:Env} {L:Hp}
theorem wZ {c:Code} {Q':vA} (hq:∀ ds e g L,Q' ds e g L→Q ds e g L) (h:vD P n w0 c Q' ds g L):vD P n w0 c Q ds g L:=fun a w ha hd hw =>
 Code.wp_mono (fun e _ _ ⟨g',L',hq',ha',hw'⟩=>⟨g',L',hq _ e g' L' hq',ha',hw'⟩) (h a w ha hd hw)
theorem X_seq {x y:Code} (h:vD P n w0 x (seqX P n w0 y Q) ds g L):vD P n w0 (.seq x y) Q ds g L:=by
 intro a w ha hd hw
 refine wp_seq (Code.wp_mono ?_ (h a w ha hd hw))
 rintro e a' w' ⟨g',L',hq,ha',hw'⟩
 cases e<;>first|exact hq a' w' ha' rfl hw'|exact ⟨g',L',hq,ha',hw'⟩
theorem X_ret (h:Q ds .ret g L):vD P n w0 .ret Q ds g L:=fun _ _ ha hd hw=>wp_ret ⟨g,L,by rw [hd]; exact h,ha,hw⟩
theorem X_skip (h:Q ds .normal g L):vD P n w0 .skip Q ds g L:=fun _ _ ha hd hw=>wp_skip ⟨g,L,by rw [hd]; exact h,ha,hw⟩
theorem X_exit {id:Nat} (h:Q ds (.exit id) g L):vD P n w0 (.exit id) Q ds g L:=fun _ _ ha hd hw=>wp_exit ⟨g,L,by rw [hd]; exact h,ha,hw⟩
theorem X_label {l:Nat} (h:Q ds .normal g L):vD P n w0 (.label l) Q ds g L:=fun _ _ ha hd hw=>wp_label ⟨g,L,by rw [hd]; exact h,ha,hw⟩
theorem X_block {id:Nat} {c:Code} (h:vD P n w0 c (blockX id Q) ds g L):vD P n w0 (.block id c) Q ds g L:=by
 intro a w ha hd hw
 refine wp_block (Code.wp_mono ?_ (h a w ha hd hw))
 rintro e a' w' ⟨g',L',hq,ha',hw'⟩
 cases e with
 | exit id' =>
  simp only [blockX] at hq
  simp only [Exit.inBlock]
  split at hq
  ·rename_i e; rw [if_pos e]; exact ⟨g',L',hq,ha',hw'⟩
  ·rename_i e; rw [if_neg e]; exact ⟨g',L',hq,ha',hw'⟩
 | _=>exact ⟨g',L',hq,ha',hw'⟩
theorem X_cond {c:Operand} {x y:Code} {t:Bool} (hc:ev g c=some (.bool t)) (h:vD P n w0 (if t then x else y) Q ds g L):vD P n w0 (.cond c x y) Q ds g L:=by
 intro a w ha hd hw
 have:=h a w ha hd hw
 have hv:a.eval c=.bool t:=ha.ev hc
 cases t<;>exact wp_cond_split hv (fun e=>by first|exact this|cases e) (fun e=>by first|exact this|cases e)
theorem X_loop {c:Code} (I:Nat→List Deferred→Env→Hp→Prop) (m:Nat) (h0:I m ds g L) (round:∀ m ds g L,I m ds g L→vD P n w0 c (loopX I m Q) ds g L) :
  vD P n w0 (.loop c) Q ds g L:=by
 intro a w ha hd hw b k cs
 have key:∀ m a w,(∃ g L,I m a.defers g L∧jE n (vY a) g∧St w0 w L) →
   ∃ e a' w',liftX n w0 Q e a' w'∧Arrives P (lone (b.at a (.code c::.inLoop c::k)) cs w) b k cs e a' w':=by
  intro m
  induction m using Nat.strongRecOn with
  | _ m ih =>
   rintro a w ⟨g,L,hI,hfa,hst⟩
   obtain ⟨e,a1,w1,⟨g1,L1,hq,ha1,hw1⟩,harr⟩:=round m a.defers g L hI a w hfa rfl hst b (.inLoop c::k) cs
   cases e with
   | normal =>
    obtain ⟨m',hlt,hI1⟩:=hq
    obtain ⟨e2,a2,w2,hq2,harr2⟩:=ih m' hlt a1 w1 ⟨g1,L1,hI1,ha1,hw1⟩
    exact ⟨e2,a2,w2,hq2,.of_steps (Steps.trans harr (.one step_inLoop)) harr2⟩
   | exit id=>exact ⟨_,a1,w1,⟨g1,L1,hq,ha1,hw1⟩,.pass (x:=.inLoop c) O (fun _ _=>.inl (by simp)) harr⟩
   | goto l=>exact ⟨_,a1,w1,⟨g1,L1,hq,ha1,hw1⟩,.pass (x:=.inLoop c) O (fun _ _=>.inl (by simp)) harr⟩
   | ret=>exact ⟨_,a1,w1,⟨g1,L1,hq,ha1,hw1⟩,.pass (x:=.inLoop c) O (fun _ _=>.inl (by simp)) harr⟩
   | panic ch=>exact ⟨_,a1,w1,⟨g1,L1,hq,ha1,hw1⟩,.pass (x:=.inLoop c) O (fun _ _=>.inl (by simp)) harr⟩
   | outgrown=>exact ⟨_,a1,w1,⟨g1,L1,hq,ha1,hw1⟩,.pass (x:=.inLoop c) O (fun _ _=>.inl (by simp)) harr⟩
 obtain ⟨e,a',w',hq,harr⟩:=key m a w ⟨g,L,by rw [hd]; exact h0,ha,hw⟩
 exact ⟨e,a',w',hq,.of_steps (.one step_loop) harr⟩
theorem X_region {id:Nat} {ops:Array Oper} (h:HoldXL P n w0 ops ops.toList Q ds g L):vD P n w0 (.region id ops false) Q ds g L :=
 fun a w ha hd hw=>wp_region_list (h a w ha hd hw)
theorem X_nil {ops:Array Oper} (h:Q ds .normal g L):HoldXL P n w0 ops [] Q ds g L:=fun _ _ ha hd hw=>⟨g,L,by rw [hd]; exact h,ha,hw⟩
variable {ops:Array Oper} {rest:List Oper} {o:Oper}
theorem vL {a:Act} {b:Bool} (ha:jE n (vY a) g) (h:yY ops g o.guard=some b):Region.wanted o (yielded ops a.tmps)=b:=wanted_of (a:=vY a) ha h
theorem X_skipOp (hw:yY ops g o.guard=some false) (hd:o.dst.all (·<n)=true) (hk:HoldXL P n w0 ops rest Q ds (jW g o.dst undef) L):HoldXL P n w0 ops (o::rest) Q ds g L:=by
 intro a w ha hds hst
 exact wpList_skip (vL ha hw) (hk _ w (by rw [bare_put]; exact ha.put hd _) (by rw [vG]; exact hds) hst)
theorem X_run (hw:yY ops g o.guard=some true) (h:∀ a w,jE n (vY a) g→a.defers=ds→St w0 w L→Oper.wp P o a w (wpList P ops (liftX n w0 Q) rest) (liftX n w0 Q)):HoldXL P n w0 ops (o::rest) Q ds g L:=by
 intro a w ha hd hst
 unfold wpList
 rw [if_pos (vL ha hw)]
 exact .inl (h a w ha hd hst)
theorem wp_eff {op:Op} (ho:o.op=op) {post:Value→Hp→Prop} (h:EV P w0 L g op post) {a:Act} {w:World} (ha:jE n (vY a) g) (hst:St w0 w L) {K:Act→World→Prop} {Q':Exit→Act→World→Prop}
  (hk:∀ v L' w',post v L'→St w0 w' L'→K (a.put o.dst v) w'):Oper.wp P o a w K Q':=by
 unfold Oper.wp
 obtain ⟨v,w',L',hr,hp,hst'⟩:=h o (vY a) w n ho ha hst
 have hr':(execOp a.eval o).run P w=.ok (.value v) w'∨((execOp a.eval o).run P w=.ok .skip w'∧v=undef):=hr
 clear hr
 rcases hr' with hr|⟨hr,rfl⟩<;>rw [hr]<;>exact hk _ L' w' hp hst'
theorem wp_call {op:Op} (ho:o.op=op) {k:FuncId} {args:List Value} (h:CV P g op k args) {pre R:Hp} {post:Value→Hp→Prop} (hs:Spec P w0 k args pre post) (hL:L=pre+R) {a:Act} {w:World} (ha:jE n (vY a) g) (hst:St w0 w L)
  {K:Act→World→Prop} {Q':Exit→Act→World→Prop} (hk:∀ v h w',post v h→St w0 w' (h+R)→K (a.put o.dst v) w'):Oper.wp P o a w K Q':=by
 unfold Oper.wp
 rw [show (execOp a.eval o).run P w=.ok (.enter k args.toArray) w from h o (vY a) w n ho ha]
 subst hL
 refine Calls.mono (hs w R hst) ?_
 rintro e w' ⟨v,h',rfl,hp,hst'⟩
 exact hk v h' w' hp hst'
theorem X_eff {op:Op} (ho:o.op=op) (hw:yY ops g o.guard=some true) (hd:o.dst.all (·<n)=true) {post:Value→Hp→Prop} (h:EV P w0 L g op post)
  (hk:∀ v L',post v L'→HoldXL P n w0 ops rest Q ds (jW g o.dst v) L'):HoldXL P n w0 ops (o::rest) Q ds g L :=
 X_run hw fun a w ha hds hst=>wp_eff ho h ha hst fun v L' w' hp hst'=>hk v L' hp _ w' (by rw [bare_put]; exact ha.put hd _) (by rw [vG]; exact hds) hst'
theorem X_call {op:Op} (ho:o.op=op) (hw:yY ops g o.guard=some true) (hd:o.dst.all (·<n)=true) {k:FuncId} {args:List Value} (h:CV P g op k args) {pre R:Hp} {post:Value→Hp→Prop}
  (hs:Spec P w0 k args pre post) (hL:L=pre+R) (hk:∀ v h,post v h→HoldXL P n w0 ops rest Q ds (jW g o.dst v) (h+R)):HoldXL P n w0 ops (o::rest) Q ds g L :=
 X_run hw fun a w ha hds hst=>wp_call ho h hs hL ha hst fun v h' w' hp hst'=>hk v h' hp _ w' (by rw [bare_put]; exact ha.put hd _) (by rw [vG]; exact hds) hst'
theorem X_defer {f:Operand} {xs:Array Operand} {ts:Array TypeId} {k:FuncId} {cap:List Value} {vs:List Value} (ho:o.op=.defer { callee:=.value f,args:=xs,argTypes:=ts }) (hw:yY ops g o.guard=some true) (hd:o.dst.all (·<n)=true)
  (h:ev g f=some (.func (.func k) #[] cap.toArray)) (hxs:evs g xs.toList=some vs) (hk:HoldXL P n w0 ops rest Q (⟨.fn (.func k) cap.toArray,vs.toArray⟩::ds) (jW g o.dst undef) L) :
  HoldXL P n w0 ops (o::rest) Q ds g L :=
 X_run hw fun a w ha hds hst=>by
  unfold Oper.wp
  have hargs:(xs.map a.eval)=vs.toArray:=by
   have:=ha.evs hxs
   apply Array.ext'; rw [Array.toList_map]; exact this
  have hv:a.eval f=.func (.func k) #[] cap.toArray:=ha.ev h
  have e:(execOp a.eval o).run P w=.ok (.defer ⟨.fn (.func k) cap.toArray,vs.toArray⟩) w:=by
   unfold execOp
   simp [ho,resolve,hv,hargs,Deferred.ofValue]
  rw [e,Oper.upon_defer]
  refine hk _ w ?_ (by rw [vG,← hds]) hst
  rw [bare_put]
  exact jE.put (a:=vY a) ha hd _
end
def SpecD (P:Program) (w0:World) (f:FuncId) (args:List Value) (pre:Hp) (post:Value→Hp→Prop):Prop :=
 ∀ (u:FrameMode) w fr,St w0 w (pre+fr)→CallsD P f args.toArray u w fun e u' w'=>u'=u∧∃ v h,e=.returned v∧post v h∧St w0 w' (h+fr)
inductive Ends (P:Program) (w0:World) (rs:List ResultVar) (fr:Hp) (post:Value→Hp→Prop):List Deferred→Env→Hp→Prop
 | done {g:Env} {L:Hp} {vs:List Value} {h R:Hp}:ResOk P w0 g L rs vs→post (oneV vs) h→L=h+fr+R→Ends P w0 rs fr post [] g L
 | call {k:FuncId} {cap vs:List Value} {pre R2:Hp} {post2:Value→Hp→Prop} {ds:List Deferred} {g:Env} {L:Hp}:Nonempty (Fun P k)→SpecD P w0 k (vs++cap) pre post2→L=pre+R2 →
   (∀ v h2,post2 v h2→Ends P w0 rs fr post ds g (h2+R2))→Ends P w0 rs fr post (⟨.fn (.func k) cap.toArray,vs.toArray⟩::ds) g L
def retX (P:Program) (w0:World) (rs:List ResultVar) (fr:Hp) (post:Value→Hp→Prop):vA
 | ds,.normal,g,L|ds,.ret,g,L=>Ends P w0 rs fr post ds g L
 | _,_,_,_=>False
theorem invoke_fun {P:Program} {k:FuncId} [hf:Fun P k] (cap vs:List Value) (w:World):(invoke (.fn (.func k) cap.toArray) vs.toArray).run P w=.ok (.enter k (vs++cap).toArray) w:=by
 obtain ⟨fn,h1,h2,h3⟩:=hf.out
 simp only [invoke,callFunc,Sem.run_bind,run_program,Result.andThen_ok,h1,h2,h3,Bool.false_eq_true,if_false,Sem.run_pure]
 congr 2
 simp
theorem leaves_ends {P:Program} {w0:World} {fn:Func} {rs:List ResultVar} {fr:Hp} {post:Value→Hp→Prop} (hr:fn.results=rs.toArray) {n:Nat} {ds:List Deferred} {g:Env} {L:Hp} (h:Ends P w0 rs fr post ds g L) :
  ∀ (a:Act) (w:World),jE n (vY a) g→St w0 w L→Leaves P fn a.tmps (fun e w'=>∃ v h,e=.returned v∧post v h∧St w0 w' (h+fr)) ds .returning w:=by
 induction h with
 | done h1 h2 h3 =>
  intro a w ha hw
  have hrun:=vW ha hw fn rs hr h1
  subst h3
  exact ⟨_,hrun,_,_,rfl,h2,hw.left⟩
 | call hfun hsp hL hk ih =>
  intro a w ha hw
  obtain ⟨hfun⟩:=hfun
  subst hL
  refine leaves_cons (by simp) (invoke_fun _ _ w) (CallsD.mono (hsp .returning w _ hw) ?_)
  rintro e u' w2 ⟨rfl,v,h2,rfl,hp2,hst2⟩
  exact ih v h2 hp2 a w2 ha hst2
theorem args_fit {n:Nat} {fn:Func} (hn:fn.ntmps=n) {args:List Value} (hle:args.length≤n):jE n (vY { tmps:=args.toArray++Array.replicate (fn.ntmps - args.toArray.size) undef,defers:=[] }) (argE 0 args):=by
 refine ⟨by simp [hn,vY]; omega,rfl,fun t v ht=>?_⟩
 have:=(look_argE args 0 t v ht).2
 simp only [Nat.sub_zero] at this
 have hlt:=(List.getElem?_eq_some_iff.1 this).1
 rw [List.getElem?_eq_getElem hlt] at this
 simp [vY,Array.getElem?_append,hlt,Option.some.inj this]
theorem spec_of_holdX {P:Program} {w0:World} {f:FuncId} {fn:Func} {c:Code} {n:Nat} {args:List Value} {rs:List ResultVar} {pre:Hp} {post:Value→Hp→Prop}
  (hf:P.funcs[f]?=some fn) (hb:fn.body=some c) (hn:fn.ntmps=n) (hr:fn.results=rs.toArray) (hle:args.length≤n)
  (h:∀ fr,vD P n w0 c (retX P w0 rs fr post) [] (argE 0 args) (pre+fr)):Spec P w0 f args pre post:=by
 intro w fr hst
 refine calls_of_wp_defers hf hb (Code.wp_mono ?_ (h fr { tmps:=args.toArray++Array.replicate (fn.ntmps - args.toArray.size) undef,defers:=[] } w (args_fit hn hle) O hst))
 rintro e a' w' ⟨g,L,hq,ha',hw'⟩
 cases e with
 | normal=>exact leaves_ends hr hq a' w' ha' hw'
 | ret=>exact leaves_ends hr hq a' w' ha' hw'
 | _=>exact hq.elim
end
end Ab
namespace Ab
noncomputable section
structure Flt where
 j:Nat
 d:Nat
 t:Nat
 ob:Obj
 vl:Nat→Value
 ar:Env
inductive Item where
 | q (i:Nat)|e (i:Nat)|now (j:Nat)|fl (j:Nat)
def opsN :List Item→Nat
 | []=>0
 | .fl _::s=>opsN s
 | .q _::s=>opsN s+1
 | .e _::s=>opsN s+1
 | .now _::s=>opsN s+1
def yX (listed:Array Bool):List Nat→Array Bool
 | []=>listed
 | j::F=>(yX listed F).setIfInBounds j true
def jM (ops:Array Oper):List Nat→Array Bool→List Item→Bool
 | F,listed,[]=>F.isEmpty&&Region.ready .any ops listed==[]
 | F,listed,.q i::s=>!F.contains i&&(Region.ready .any ops listed).contains i&&Region.free .any ops listed i&&jM ops F (listed.setIfInBounds i true) s
 | F,listed,.e i::s=>!F.contains i&&(Region.ready .any ops listed).contains i&&Region.ready .any ops (yX listed F)==[i]&&jM ops F (listed.setIfInBounds i true) s
 | F,listed,.now j::s=>F.contains j&&(Region.ready .any ops listed).contains j&&Region.ready .any ops (yX listed (F.filter (· != j)))==[j]&&jM ops (F.filter (· != j)) (listed.setIfInBounds j true) s
 | F,listed,.fl j::s=>!F.contains j&&jM ops (F++[j]) listed s
def NPX (Q:vA):Prop:=∀ ds c g L,¬ Q ds (.panic c) g L
abbrev Fts :=List (Flt × Nat)
def envF (A:Fts):Env:=A.map fun p=>(p.1.d,p.1.vl p.2)
def hpF :Fts→Hp
 | []=>0
 | p::A=>pt p.2 p.1.ob+hpF A
def jsF (A:Fts):List Nat:=A.map (·.1.j)
theorem listAll_size (listed:Array Bool):∀ F,(yX listed F).size=listed.size
 | []=>rfl
 | j::F=>by simp [yX,listAll_size listed F]
theorem kY (listed:Array Bool) (k:Nat) (b:Bool):∀ F,(yX listed F).getD k b=if k∈F∧k<listed.size then true else listed.getD k b
 | []=>by simp [yX]
 | j::F=>by
  simp only [yX]
  by_cases hjk:j=k
  ·subst hjk
   by_cases hlt:j<listed.size
   ·rw [if_pos ⟨by simp,hlt⟩,Array.getD_eq_getD_getElem?,Array.getElem?_setIfInBounds,if_pos O,if_pos (by rw [listAll_size]; exact hlt)]; rfl
   ·rw [if_neg (fun h=>hlt h.2),Array.getD_eq_getD_getElem?,Array.getElem?_setIfInBounds,if_pos O,if_neg (by rw [listAll_size]; exact hlt),Array.getD_eq_getD_getElem?,Array.getElem?_eq_none (by omega)]
  ·rw [getD_set_ne b hjk,kY listed k b F]
   simp [Ne.symm hjk]
theorem uS (listed:Array Bool) (i:Nat) (F:List Nat):yX (listed.setIfInBounds i true) F=(yX listed F).setIfInBounds i true:=by
 induction F with
 | nil=>rfl
 | cons j F ih =>
  simp only [yX,ih]
  by_cases h:i=j
  ·subst h; rfl
  ·exact Array.setIfInBounds_comm _ _ (Ne.symm (Ne.symm h))
theorem listAll_perm {listed:Array Bool} {F F':List Nat} (h:F.Perm F'):yX listed F=yX listed F':=by
 induction h with
 | nil=>rfl
 | cons j _ ih=>simp only [yX,ih]
 | swap i j l =>
  simp only [yX]
  by_cases h:i=j
  ·subst h; rfl
  ·exact Array.setIfInBounds_comm _ _ (Ne.symm (Ne.symm h))
 | trans _ _ ih1 ih2=>rw [ih1,ih2]
theorem wE.all {ops:Array Oper} {listed:Array Bool} (hc:wE ops listed):∀ {F:List Nat},(∀ j∈F,∀ o,ops[j]?=some o→∀ e∈o.after,Region.binds .any e=true→listed.getD e.on false=true)→wE ops (yX listed F)
 | [],_=>hc
 | j::F,h=>by
  have ih:=wE.all hc (F:=F) fun k hk=>h k (by simp [hk])
  intro f k m hb hm
  simp only [yX] at hm ⊢
  by_cases hjm:j=m
  ·subst hjm
   cases f with
   | zero=>simp [bf] at hb
   | succ f =>
    cases ho:ops[j]? with
    | none=>simp [bf,ho] at hb
    | some o =>
     simp only [bf,ho] at hb
     rw [Array.any_eq_true'] at hb
     obtain ⟨e,he,hb2⟩:=hb
     simp only [Bool.and_eq_true,Bool.or_eq_true,beq_iff_eq] at hb2
     have hl:=h j (by simp) o ho e he hb2.1
     have hl2:(yX listed F).getD e.on false=true:=by rw [kY]; split; rfl; exact hl
     rcases hb2.2 with rfl|h3
     ·exact getD_set_true hl2
     ·exact getD_set_true (ih f k e.on h3 hl2)
  ·rw [getD_set_ne false hjm] at hm
   exact getD_set_true (ih f k m hb hm)
theorem ready_listAll {ops:Array Oper} {listed:Array Bool} {F A:List Nat} (hs:listed.size=ops.size) (hA:∀ j∈A,j∈F) {k:Nat} (hk:k∈Region.ready .any ops (yX listed A)) (hkF:k∉F):k∈Region.ready .any ops (yX listed F):=by
 obtain ⟨h1,o,ho,h2⟩:=mem_ready.1 hk
 refine mem_ready.2 ⟨?_,o,ho,fun e he hb=>?_⟩
 ·rw [kY,if_neg (fun h=>hkF h.1)]
  rw [kY] at h1
  split at h1
  ·cases h1
  ·exact h1
 ·have:=h2 e he hb
  rw [kY] at this ⊢
  split at this
  ·rename_i h3; rw [if_pos ⟨hA _ h3.1,h3.2⟩]
  ·split
   ·rfl
   ·exact this
def FltOk (P:Program) (ops:Array Oper) (n:Nat) (f:Flt):Prop :=
 ∃ o,ops[f.j]?=some o∧o.dst=some f.d∧o.guard=none∧f.d<n∧∀ (a:Act) (w:World),jE n (vY a) f.ar→(execOp a.eval o).run P w=.ok (.value (f.vl w.heap.size)) (w.alloc f.ob)
def HoldXW (P:Program) (n:Nat) (w0:World) (ops:Array Oper) (F:List Flt) (W:jO) (listed:Array Bool) (s:List Item) (Q:vA) (ds:List Deferred) (g:Env) (L:Hp):Prop :=
 jM ops (F.map (·.j)) listed s=true→listed.size=ops.size→wE ops listed→(∀ p∈W,uA P w0 L p.2.1 p.2.2.1 p.2.2.2) →
  ∀ A:Fts,(∀ p∈A,p.1∈F)→(jsF A).Nodup→wE ops (yX listed (jsF A))→∀ a w,jE n (vY a) (envF A++g)→a.defers=ds→St w0 w (hpF A+L) →
   ∀ fuel,fuel+A.length=opsN s→WG P ops (liftX n w0 Q) fuel (W.at P) (yX listed (jsF A)) a w
section
variable {P:Program} {n:Nat} {w0:World} {Q:vA} {ds:List Deferred} {g:Env} {L:Hp} {ops:Array Oper} {F:List Flt} {W:jO} {listed:Array Bool} {s:List Item}
theorem npX (hq:NPX Q) (c:List PanicEntry) (a:Act) (w:World):¬ liftX n w0 Q (.panic c) a w:=fun ⟨_,_,h,_⟩=>hq _ _ _ _ h
theorem X_draw {id:Nat} (F:List Flt) (s:List Item) (hm:P.follows .mixedOrders=true) (hl:opsN s=ops.size) (hok:jM ops (F.map (·.j)) (Array.replicate ops.size false) s=true)
  (h:HoldXW P n w0 ops F [] (Array.replicate ops.size false) s Q ds g L):vD P n w0 (.region id ops true) Q ds g L:=by
 intro a w ha hd hst
 refine wp_region_any hm (WG_any _ [] _ _ _ ?_)
 exact h hok (by simp) (wE.start ops _) (by simp) [] (by simp) (by simp [jsF]) (wE.start ops _) a { w with drawn:=w.drawn+1 } ha hd (by show St w0 w.drew (0+L); rw [jX]; exact hst.drew) ops.size (by simpa using hl.symm)
theorem yE (h:Q ds .normal g L):HoldXW P n w0 ops [] W listed [] Q ds g L:=by
 intro hok _ _ _ A hA _ _ a w ha hd hst fuel hf
 have:A=[]:=by cases A with|nil=>rfl|cons p A=>have:=hA p (by simp); cases this
 subst this
 have:fuel=0:=by simpa [opsN] using hf
 subst this
 simp only [jM,Bool.and_eq_true,beq_iff_eq] at hok
 have hst':St w0 w (0+L):=hst
 rw [jX] at hst'
 exact ⟨hok.2,g,L,by rw [hd]; exact h,ha,hst'⟩
theorem loads_frame {X:Hp} {t:TypeId} {ad:Addr} {v:Value} (h:uA P w0 L t ad v):uA P w0 (X+L) t ad v:=fun w hst=>h w hst.right
theorem fits_right {a:Act} {e g:Env} (h:jE n a (e++g)) (hd:∀ t v,yQ g t=some v→yQ e t=none):jE n a g:=⟨h.size,h.nodefer,fun t v hv=>h.get t v (by
 have:∀ (e:Env),yQ e t=none→yQ (e++g) t=yQ g t:=by
  intro e
  induction e with
  | nil=>intro _; rfl
  | cons p e ih =>
   intro he
   obtain ⟨d,u⟩:=p
   simp only [yQ] at he
   split at he
   ·cases he
   ·rename_i hne
    simp only [List.cons_append,yQ,if_neg hne]; exact ih he
 rw [this e (hd t v hv)]; exact hv)⟩
theorem jG {e g:Env} {t:Nat} (h:yQ e t=none):yQ (e++g) t=yQ g t:=by
 induction e with
 | nil=>rfl
 | cons p e ih =>
  obtain ⟨d,u⟩:=p
  simp only [yQ] at h
  split at h
  ·cases h
  ·rename_i hne
   simp only [List.cons_append,yQ,if_neg hne]; exact ih h
theorem wX {e g:Env} {t:Nat} {v:Value} (h:yQ e t=some v):yQ (e++g) t=some v:=by
 induction e with
 | nil=>cases h
 | cons p e ih =>
  obtain ⟨d,u⟩:=p
  simp only [yQ] at h
  split at h
  ·rename_i he; simp only [List.cons_append,yQ,if_pos he]; exact h
  ·rename_i hne
   simp only [List.cons_append,yQ,if_neg hne]; exact ih h
theorem look_envF {A:Fts} {t:Nat} (h:∀ p∈A,p.1.d≠t):yQ (envF A) t=none:=by
 induction A with
 | nil=>rfl
 | cons p A ih =>
  show yQ ((p.1.d,_)::envF A) t=none
  simp only [yQ,if_neg (h p (by simp))]
  exact ih fun q hq=>h q (by simp [hq])
theorem fits_putF {a:Act} {A:Fts} {g:Env} (h:jE n a (envF A++g)) {dst:Option Nat} (hd:dst.all (·<n)=true) (hdd:∀ p∈A,dst≠some p.1.d) (v:Value):jE n (a.put dst v) (envF A++jW g dst v):=by
 refine (h.put hd v).sub fun t u hu=>?_
 cases dst with
 | none=>exact hu
 | some d =>
  simp only [jW] at hu ⊢
  have hn:yQ (envF A) d=none:=look_envF fun p hp e=>hdd p hp (by rw [e])
  cases hA:yQ (envF A) t with
  | some v' =>
   rw [wX hA] at hu
   have hdt:¬ d=t:=fun e=>by subst e; rw [hn] at hA; cases hA
   simp only [yQ,if_neg hdt]
   rw [wX hA]; exact hu
  | none =>
   rw [jG hA] at hu
   simp only [yQ] at hu ⊢
   split at hu
   ·rename_i e; rw [if_pos e]; exact hu
   ·rename_i e; rw [if_neg e,jG hA]; exact hu
theorem filter_js (F:List Flt) (j:Nat):(F.map (·.j)).filter (· != j)=(F.filter (fun f=>f.j != j)).map (·.j):=by rw [List.filter_map]; rfl
theorem filter_count {A:Fts} (hn:(jsF A).Nodup) (j:Nat):A.length≤(A.filter (fun p=>p.1.j != j)).length+1:=by
 induction A with
 | nil=>simp
 | cons p A ihA =>
  have hn2:(jsF A).Nodup∧p.1.j∉jsF A:=by
   have:=List.nodup_cons.1 hn; exact ⟨this.2,this.1⟩
  by_cases hpj:p.1.j=j
  ·have hall:A.filter (fun p=>p.1.j != j)=A:=List.filter_eq_self.2 fun q hq=>by
    simp only [bne_iff_ne,ne_eq]
    intro e; exact hn2.2 (List.mem_map.2 ⟨q,hq,by rw [e,hpj]⟩)
   rw [List.filter_cons,if_neg (by simp [hpj]),hall]; simp
  ·rw [List.filter_cons,if_pos (by simpa using hpj)]
   have:=ihA hn2.1
   simp; omega
theorem vQ :∀ (s:List Item) (A:Fts) (F:List Flt) (lst:Array Bool),(∀ p∈A,p.1∈F)→(jsF A).Nodup→jM ops (F.map (·.j)) lst s=true→A.length≤opsN s
 | [],A,F,lst,hA,_,hok=>by
  simp only [jM,Bool.and_eq_true] at hok
  have hF:F=[]:=by simpa using hok.1
  subst hF
  cases A with
  | nil=>exact Nat.zero_le _
  | cons p A=>have:=hA p (by simp); cases this
 | .q i'::s,A,F,lst,hA,hn,hok=>by simp only [jM,Bool.and_eq_true] at hok; have:=vQ s A F _ hA hn hok.2; simp only [opsN]; omega
 | .e i'::s,A,F,lst,hA,hn,hok=>by simp only [jM,Bool.and_eq_true] at hok; have:=vQ s A F _ hA hn hok.2; simp only [opsN]; omega
 | .fl j'::s,A,F,lst,hA,hn,hok=>by
  simp only [jM,Bool.and_eq_true] at hok
  have:=vQ s A (F++[⟨j',0,0,.map #[] 0,fun _=>.bool true,[]⟩]) lst (fun p hp=>List.mem_append_left _ (hA p hp)) hn (by rw [List.map_append]; exact hok.2)
  simp only [opsN]; omega
 | .now j::s,A,F,lst,hA,hn,hok=>by
  simp only [jM,Bool.and_eq_true] at hok
  have hok2:=hok.2
  rw [filter_js] at hok2
  have:=vQ s (A.filter (fun p=>p.1.j != j)) _ _ (fun p hp=>by
   obtain ⟨h1,h2⟩:=List.mem_filter.1 hp
   exact List.mem_filter.2 ⟨hA p h1,h2⟩) (by unfold jsF at hn ⊢; exact hn.sublist (List.Sublist.map _ List.filter_sublist)) hok2
  have:=filter_count hn j
  simp only [opsN]; omega
theorem W_take (hq:NPX Q) (hsel:Region.noSelect ops=true) {i:Nat} {o:Oper} {v:Value} (S:World→Prop) (W':jO) (hi:ops[i]?=some o) (hd:o.dst.all (·<n)=true) (hdd:∀ f∈F,o.dst≠some f.d)
  (hW':∀ p∈(i,S)::jO.at P W,p∈jO.at P W'∨∀ w,p.2 w) (hS:∀ X w,St w0 w (X+L)→S w) (hlW:(∀ p∈W,uA P w0 L p.2.1 p.2.2.1 p.2.2.2)→∀ p∈W',uA P w0 L p.2.1 p.2.2.1 p.2.2.2)
  (hy:∀ (A:Fts) a,(∀ p∈A,p.1∈F)→jE n (vY a) (envF A++g)→YieldsIf P ops S o v a)
  (hk:HoldXW P n w0 ops F W' (listed.setIfInBounds i true) s Q ds (jW g o.dst v) L):HoldXW P n w0 ops F W listed (.q i::s) Q ds g L:=by
 intro hok hsz hc hW A hA hnd hcA a w ha hds hst fuel hf
 simp only [jM,Bool.and_eq_true,Bool.not_eq_true'] at hok
 obtain ⟨⟨⟨h0,h1⟩,h2⟩,h3⟩:=hok
 have hr:i∈Region.ready .any ops listed:=by simpa using h1
 have hiA:i∉jsF A:=fun h=>by
  obtain ⟨p,hp,rfl⟩:=List.mem_map.1 h
  have:(F.map (·.j)).contains p.1.j=true:=by simpa using ⟨p.1,hA p hp,rfl⟩
  rw [this] at h0; cases h0
 have hrA:i∈Region.ready .any ops (yX listed (jsF A)):=by
  obtain ⟨h4,o',ho',h5⟩:=mem_ready.1 hr
  refine mem_ready.2 ⟨by rw [kY,if_neg (fun h=>hiA h.1)]; exact h4,o',ho',fun e he hb=>?_⟩
  rw [kY]; split
  ·rfl
  ·exact h5 e he hb
 have hfuel:∃ f,fuel=f+1:=by
  cases fuel with
  | succ f=>exact ⟨f,rfl⟩
  | zero =>
   exfalso
   have hlen:A.length=opsN s+1:=by simpa [opsN] using hf
   have:=vQ s A F _ hA hnd h3
   omega
 obtain ⟨f,rfl⟩:=hfuel
 have hcA':wE ops (yX (listed.setIfInBounds i true) (jsF A)):=by rw [uS]; exact hcA.set hrA
 have hddA:∀ p∈A,o.dst≠some p.1.d:=fun p hp=>hdd p.1 (hA p hp)
 have H:=hk h3 (by simpa using hsz) (hc.set hr) (hlW hW) A hA hnd hcA' (a.put o.dst v) w (by rw [bare_put]; exact fits_putF ha hd hddA v) (by rw [vG]; exact hds) hst f (by simp only [opsN] at hf; omega)
 rw [uS] at H
 refine WG_first hi (Region.noSelect_spec hsel) (fun c a w=>npX hq c a w) f (W.at P) (yX listed (jsF A)) a w hcA
  (fun j oj hj hne hun hno=>Region.free_spec hi h2 j oj hj hne ?_ hno) hrA (hy A a hA ha) (hS _ w hst) ?_ (WG_sub _ _ _ _ _ _ hW' H)
 ·rw [kY] at hun
  split at hun
  ·cases hun
  ·exact hun
 ·intro p hp
  obtain ⟨q,hq',rfl⟩:=List.mem_map.1 hp
  exact hW q hq' w hst.right
end
end
end Ab
namespace Ab
noncomputable section
section
variable {P:Program} {n:Nat} {w0:World} {Q:vA} {ds:List Deferred} {g:Env} {L:Hp} {ops:Array Oper} {F:List Flt} {W:jO} {listed:Array Bool} {s:List Item}
theorem float_step {f:Flt} (hf:FltOk P ops n f) (har:Sub g f.ar) {A:Fts} (hA0:∀ p∈A,yQ g p.1.d=none) {a:Act} {w:World} (hfit:jE n (vY a) (envF A++g)) (hst:St w0 w (hpF A+L)) {K:Act→World→Prop} {Q':Exit→Act→World→Prop}
  (hK:∀ a' w',jE n (vY a') (envF ((f,w.heap.size)::A)++g)→a'.defers=a.defers→St w0 w' (hpF ((f,w.heap.size)::A)+L)→K a' w'):wpOp P ops Q' f.j K a w:=by
 obtain ⟨o,ho,hd,hgd,hn,hrun⟩:=hf
 unfold wpOp
 have hw:Region.wanted o (yielded ops a.tmps)=true:=by unfold Region.wanted; rw [hgd]
 simp only [ho,hw,if_true]
 left
 unfold Oper.wp
 rw [hrun a w (hfit.sub fun t v hv=>by
  have hv':=har t v hv
  rw [jG (look_envF fun p hp e=>by subst e; rw [hA0 p hp] at hv'; cases hv')]; exact hv'),Oper.upon_value,hd]
 refine hK _ _ ?_ (by rw [vG]) ?_
 ·rw [bare_put]
  exact hfit.put (dst:=some f.d) (by simpa using hn) _
 ·have:=hst.alloc f.ob
  show St w0 _ (pt w.heap.size f.ob+hpF A+L)
  rw [yH]; exact this
def NextX (P:Program) (n:Nat) (w0:World) (ops:Array Oper) (F:List Flt) (W:jO) (listed:Array Bool) (s:List Item) (Q:vA) (i:Nat) (A:Fts) (a':Act) (w':World):Prop :=
 ∃ g' L' W',HoldXW P n w0 ops F W' (listed.setIfInBounds i true) s Q a'.defers g' L'∧(∀ p∈(W.at P).past ops i,p∈W'.at P∨∀ w,p.2 w)∧(∀ p∈W',uA P w0 L' p.2.1 p.2.2.1 p.2.2.2) ∧
  jE n (vY a') (envF A++g')∧St w0 w' (hpF A+L')
theorem W_e {i:Nat} (hF:∀ f∈F,FltOk P ops n f) (har:∀ f∈F,Sub g f.ar∧yQ g f.d=none)
  (uB:(∀ p∈W,uA P w0 L p.2.1 p.2.2.1 p.2.2.2)→∀ (A:Fts) a w,(∀ p∈A,p.1∈F)→jE n (vY a) (envF A++g)→a.defers=ds→St w0 w (hpF A+L)→∀ K:Act→World→Prop,(∀ a' w',NextX P n w0 ops F W listed s Q i A a' w'→K a' w')→wpOp P ops (liftX n w0 Q) i K a w) :
  HoldXW P n w0 ops F W listed (.e i::s) Q ds g L:=by
 intro hok hsz hc hW
 have hok':=hok
 simp only [jM,Bool.and_eq_true,Bool.not_eq_true',beq_iff_eq] at hok
 obtain ⟨⟨⟨h0,h1⟩,h2⟩,h3⟩:=hok
 have hr:i∈Region.ready .any ops listed:=by simpa using h1
 have hiF:∀ f∈F,f.j≠i:=fun f hf e=>by
  have:(F.map (·.j)).contains i=true:=by simpa using ⟨f,hf,e⟩
  rw [this] at h0; cases h0
 intro A hA hnd hcA a w ha hds hst fuel
 induction fuel generalizing A a w with
 | zero =>
  intro hf
  exfalso
  have:=vQ s A F _ hA hnd h3
  simp only [opsN] at hf; omega
 | succ f ih =>
  intro hf
  have hiA:i∉jsF A:=fun h=>by
   obtain ⟨p,hp,e⟩:=List.mem_map.1 h
   exact hiF p.1 (hA p hp) e
  have hrA:i∈Region.ready .any ops (yX listed (jsF A)):=by
   obtain ⟨h4,o',ho',h5⟩:=mem_ready.1 hr
   refine mem_ready.2 ⟨by rw [kY,if_neg (fun h=>hiA h.1)]; exact h4,o',ho',fun e he hb=>?_⟩
   rw [kY]; split
   ·rfl
   ·exact h5 e he hb
  refine ⟨(fun hnil=>by rw [hnil] at hrA; cases hrA),fun k hk=>?_⟩
  by_cases hki:k=i
  ·subst hki
   refine uB hW A a w hA ha hds hst _ ?_
   rintro a' w' ⟨g',L',W',hN,hW',hlW,hfit,hst'⟩
   have hcA':wE ops (yX (listed.setIfInBounds k true) (jsF A)):=by rw [uS]; exact hcA.set hk
   have H:=hN h3 (by simpa using hsz) (hc.set hr) hlW A hA hnd hcA' a' w' hfit O hst' f (by simp only [opsN] at hf; omega)
   rw [uS] at H
   refine ⟨fun p hp=>?_,WG_sub _ _ _ _ _ _ hW' H⟩
   rcases hW' p hp with h|h
   ·obtain ⟨q,hq',rfl⟩:=List.mem_map.1 h
    exact hlW q hq' w' hst'.right
   ·exact h w'
  ·have hkF:k∈F.map (·.j):=by
    by_cases h:k∈F.map (·.j)
    ·exact h
    ·exfalso
     have:=ready_listAll (F:=F.map (·.j)) hsz (fun j hj=>by
      obtain ⟨p,hp,rfl⟩:=List.mem_map.1 hj
      exact List.mem_map.2 ⟨p.1,hA p hp,rfl⟩) hk h
     rw [h2] at this
     exact hki (by simpa using this)
   obtain ⟨fl,hfl,rfl⟩:=List.mem_map.1 hkF
   have hnew:fl.j∉jsF A:=fun h=>by
    have h4:=(mem_ready.1 hk).1
    obtain ⟨o,ho,_⟩:=(mem_ready.1 hk).2
    have hlt:=(Array.getElem?_eq_some_iff.1 ho).1
    rw [kY,if_pos ⟨h,by rw [hsz]; exact hlt⟩] at h4; cases h4
   refine float_step (hF fl hfl) (har fl hfl).1 (fun p hp=>(har p.1 (hA p hp)).2) ha hst fun a' w' hfit hds' hst'=>?_
   have hcA':wE ops (yX listed (jsF ((fl,w.heap.size)::A))):=hcA.set hk
   have H:=ih ((fl,w.heap.size)::A) (fun p hp=>by rcases List.mem_cons.1 hp with rfl|hp; exact hfl; exact hA p hp) (List.nodup_cons.2 ⟨hnew,hnd⟩) hcA' a' w' hfit (by rw [hds',hds]) hst' (by simp only [opsN,List.length_append,List.length_cons] at hf ⊢; omega)
   refine ⟨fun p hp=>?_,WG_sub _ _ _ _ _ _ (fun p hp=>.inl (List.mem_filter.1 hp).1) H⟩
   obtain ⟨q,hq',rfl⟩:=List.mem_map.1 (List.mem_filter.1 hp).1
   exact hW q hq' w' hst'.right
theorem W_fl (f:Flt) (h:HoldXW P n w0 ops (F++[f]) W listed s Q ds g L):HoldXW P n w0 ops F W listed (.fl f.j::s) Q ds g L:=by
 intro hok hsz hc hW A hA hnd hcA a w ha hds hst fuel hf
 simp only [jM,Bool.and_eq_true] at hok
 exact h (by rw [List.map_append]; exact hok.2) hsz hc hW A (fun p hp=>List.mem_append_left _ (hA p hp)) hnd hcA a w ha hds hst fuel hf
theorem W_env {g':Env} (hs:Sub g g') (h:HoldXW P n w0 ops F W listed s Q ds g' L):HoldXW P n w0 ops F W listed s Q ds g L:=by
 intro hok hsz hc hW A hA hnd hcA a w ha hds hst fuel hf
 refine h hok hsz hc hW A hA hnd hcA a w (ha.sub fun t v hv=>?_) hds hst fuel hf
 cases hA2:yQ (envF A) t with
 | some u=>rw [wX hA2] at hv ⊢; exact hv
 | none=>rw [jG hA2] at hv ⊢; exact hs t v hv
theorem hpF_perm {A A':Fts} (h:A.Perm A'):hpF A=hpF A':=by
 induction h with
 | nil=>rfl
 | cons p _ ih=>simp only [hpF,ih]
 | swap p q l=>simp only [hpF]; ac_rfl
 | trans _ _ ih1 ih2=>rw [ih1,ih2]
theorem W_now {f:Flt} (hfF:f∈F) (hF:∀ f∈F,FltOk P ops n f) (har:∀ f∈F,Sub g f.ar∧yQ g f.d=none) (hinj:∀ f∈F,∀ f'∈F,f.d=f'.d→f.j=f'.j) (hj:∀ f'∈F,f'.j=f.j→f'=f)
  (hk:∀ b,(∃ w A,St w0 w (hpF A+(pt b f.ob+L)))→HoldXW P n w0 ops (F.filter (fun x=>x.j != f.j)) W (listed.setIfInBounds f.j true) s Q ds ((f.d,f.vl b)::g) (pt b f.ob+L)) :
  HoldXW P n w0 ops F W listed (.now f.j::s) Q ds g L:=by
 intro hok hsz hc hW
 simp only [jM,Bool.and_eq_true,Bool.not_eq_true',beq_iff_eq] at hok
 obtain ⟨⟨⟨h0,h1⟩,h2⟩,h3⟩:=hok
 rw [filter_js] at h2 h3
 have hr:f.j∈Region.ready .any ops listed:=by simpa using h1
 intro A hA hnd hcA a w ha hds hst fuel
 induction fuel generalizing A a w with
 | zero =>
  intro hf
  by_cases hjA:f.j∈jsF A
  ·have:=vQ s (A.filter (fun p=>p.1.j != f.j)) _ _ (fun p hp=>by
    obtain ⟨h1,h2⟩:=List.mem_filter.1 hp
    exact List.mem_filter.2 ⟨hA p h1,h2⟩) (by unfold jsF at hnd ⊢; exact hnd.sublist (List.Sublist.map _ List.filter_sublist)) h3
   have h5:=filter_count hnd f.j
   have hlen:A.length=opsN s+1:=by simpa [opsN] using hf
   obtain ⟨p,hp,hpj⟩:=List.mem_map.1 hjA
   have hpf:p.1=f:=hj p.1 (hA p hp) hpj
   obtain ⟨A1,A2,rfl⟩:=List.append_of_mem hp
   have hperm:(A1++p::A2).Perm (p::(A1++A2)):=List.perm_middle
   have hn2:(jsF (p::(A1++A2))).Nodup:=by unfold jsF at hnd ⊢; exact (hperm.map _).nodup_iff.1 hnd
   have hn3:=List.nodup_cons.1 hn2
   have e1:yX listed (jsF (A1++p::A2))=yX (listed.setIfInBounds f.j true) (jsF (A1++A2)):=by
    rw [uS]
    have:(jsF (A1++p::A2)).Perm (p.1.j::jsF (A1++A2)):=by unfold jsF; exact hperm.map (·.1.j)
    rw [listAll_perm this]
    show (yX listed (jsF (A1++A2))).setIfInBounds p.1.j true=_
    rw [hpf]
   have e2:hpF (A1++p::A2)+L=hpF (A1++A2)+(pt p.2 f.ob+L):=by
    rw [hpF_perm hperm]; simp only [hpF,hpf]; ac_rfl
   rw [e2] at hst
   rw [e1]
   refine hk p.2 ⟨w,_,hst⟩ h3 (by simpa using hsz) (hc.set hr) (fun q hq=>loads_frame (hW q hq)) (A1++A2) (fun q hq=>?_) hn3.2 (by rw [← e1]; exact hcA) a w ?_ hds hst 0 (by simp only [opsN,List.length_append,List.length_cons] at hf ⊢; omega)
   ·have hq':q∈A1++p::A2:=by rcases List.mem_append.1 hq with h|h<;>simp [h]
    refine List.mem_filter.2 ⟨hA q hq',?_⟩
    simp only [bne_iff_ne,ne_eq]
    intro e; exact hn3.1 (List.mem_map.2 ⟨q,hq,by show q.1.j=p.1.j; rw [e,hpf]⟩)
   ·refine ha.sub fun t v hv=>?_
    have hdq:∀ q∈A1++A2,q.1.d≠f.d:=fun q hq e=>by
     have hq':q∈A1++p::A2:=by rcases List.mem_append.1 hq with h|h<;>simp [h]
     have:=hinj q.1 (hA q hq') f hfF e
     exact hn3.1 (List.mem_map.2 ⟨q,hq,by show q.1.j=p.1.j; rw [this,hpf]⟩)
    have hmid:∀ (A1 A2:Fts) (t:Nat) (v:Value),(∀ q∈A1++A2,q.1.d≠f.d)→yQ (envF (A1++A2)++(f.d,f.vl p.2)::g) t=some v→yQ (envF (A1++p::A2)++g) t=some v:=by
     intro A1
     induction A1 with
     | nil =>
      intro A2 t v hd hv
      show yQ ((p.1.d,_)::(envF A2++g)) t=some v
      simp only [List.nil_append] at hd hv
      simp only [yQ,hpf]
      split
      ·rename_i e
       subst e
       rw [jG (look_envF hd)] at hv
       simp only [yQ,if_true] at hv; exact hv
      ·rename_i hne
       cases hA2:yQ (envF A2) t with
       | some u=>rw [wX hA2] at hv ⊢; exact hv
       | none =>
        rw [jG hA2] at hv ⊢
        simp only [yQ,if_neg hne] at hv; exact hv
     | cons q A1 ih2 =>
      intro A2 t v hd hv
      have hv:yQ ((q.1.d,q.1.vl q.2)::(envF (A1++A2)++(f.d,f.vl p.2)::g)) t=some v:=hv
      show yQ ((q.1.d,q.1.vl q.2)::(envF (A1++p::A2)++g)) t=some v
      simp only [yQ] at hv ⊢
      split
      ·rename_i e; rw [if_pos e] at hv; exact hv
      ·rename_i e; rw [if_neg e] at hv; exact ih2 A2 t v (fun q hq=>hd q (by simp at hq ⊢; exact .inr hq)) hv
    exact hmid A1 A2 t v hdq hv
  ·exfalso
   have:=vQ s A (F.filter (fun x=>x.j != f.j)) _ (fun p hp=>List.mem_filter.2 ⟨hA p hp,by simp only [bne_iff_ne,ne_eq]; intro e; exact hjA (List.mem_map.2 ⟨p,hp,e⟩)⟩) hnd h3
   simp only [opsN] at hf; omega
 | succ fu ih =>
  intro hf
  by_cases hjA:f.j∈jsF A
  ·obtain ⟨p,hp,hpj⟩:=List.mem_map.1 hjA
   have hpf:p.1=f:=hj p.1 (hA p hp) hpj
   obtain ⟨A1,A2,rfl⟩:=List.append_of_mem hp
   have hperm:(A1++p::A2).Perm (p::(A1++A2)):=List.perm_middle
   have hn2:(jsF (p::(A1++A2))).Nodup:=by unfold jsF at hnd ⊢; exact (hperm.map _).nodup_iff.1 hnd
   have hn3:=List.nodup_cons.1 hn2
   have e1:yX listed (jsF (A1++p::A2))=yX (listed.setIfInBounds f.j true) (jsF (A1++A2)):=by
    rw [uS]
    have:(jsF (A1++p::A2)).Perm (p.1.j::jsF (A1++A2)):=by unfold jsF; exact hperm.map (·.1.j)
    rw [listAll_perm this]
    show (yX listed (jsF (A1++A2))).setIfInBounds p.1.j true=_
    rw [hpf]
   have e2:hpF (A1++p::A2)+L=hpF (A1++A2)+(pt p.2 f.ob+L):=by
    rw [hpF_perm hperm]; simp only [hpF,hpf]; ac_rfl
   rw [e2] at hst
   rw [e1]
   refine hk p.2 ⟨w,_,hst⟩ h3 (by simpa using hsz) (hc.set hr) (fun q hq=>loads_frame (hW q hq)) (A1++A2) (fun q hq=>?_) hn3.2 (by rw [← e1]; exact hcA) a w ?_ hds hst (fu+1) (by simp only [opsN,List.length_append,List.length_cons] at hf ⊢; omega)
   ·have hq':q∈A1++p::A2:=by rcases List.mem_append.1 hq with h|h<;>simp [h]
    refine List.mem_filter.2 ⟨hA q hq',?_⟩
    simp only [bne_iff_ne,ne_eq]
    intro e; exact hn3.1 (List.mem_map.2 ⟨q,hq,by show q.1.j=p.1.j; rw [e,hpf]⟩)
   ·refine ha.sub fun t v hv=>?_
    have hdq:∀ q∈A1++A2,q.1.d≠f.d:=fun q hq e=>by
     have hq':q∈A1++p::A2:=by rcases List.mem_append.1 hq with h|h<;>simp [h]
     have:=hinj q.1 (hA q hq') f hfF e
     exact hn3.1 (List.mem_map.2 ⟨q,hq,by show q.1.j=p.1.j; rw [this,hpf]⟩)
    have hmid:∀ (A1 A2:Fts) (t:Nat) (v:Value),(∀ q∈A1++A2,q.1.d≠f.d)→yQ (envF (A1++A2)++(f.d,f.vl p.2)::g) t=some v→yQ (envF (A1++p::A2)++g) t=some v:=by
     intro A1
     induction A1 with
     | nil =>
      intro A2 t v hd hv
      show yQ ((p.1.d,_)::(envF A2++g)) t=some v
      simp only [List.nil_append] at hd hv
      simp only [yQ,hpf]
      split
      ·rename_i e
       subst e
       rw [jG (look_envF hd)] at hv
       simp only [yQ,if_true] at hv; exact hv
      ·rename_i hne
       cases hA2:yQ (envF A2) t with
       | some u=>rw [wX hA2] at hv ⊢; exact hv
       | none =>
        rw [jG hA2] at hv ⊢
        simp only [yQ,if_neg hne] at hv; exact hv
     | cons q A1 ih2 =>
      intro A2 t v hd hv
      have hv:yQ ((q.1.d,q.1.vl q.2)::(envF (A1++A2)++(f.d,f.vl p.2)::g)) t=some v:=hv
      show yQ ((q.1.d,q.1.vl q.2)::(envF (A1++p::A2)++g)) t=some v
      simp only [yQ] at hv ⊢
      split
      ·rename_i e; rw [if_pos e] at hv; exact hv
      ·rename_i e; rw [if_neg e] at hv; exact ih2 A2 t v (fun q hq=>hd q (by simp at hq ⊢; exact .inr hq)) hv
    exact hmid A1 A2 t v hdq hv
  ·have hrA:f.j∈Region.ready .any ops (yX listed (jsF A)):=by
    obtain ⟨h4,o',ho',h5⟩:=mem_ready.1 hr
    refine mem_ready.2 ⟨by rw [kY,if_neg (fun h=>hjA h.1)]; exact h4,o',ho',fun e he hb=>?_⟩
    rw [kY]; split
    ·rfl
    ·exact h5 e he hb
   refine ⟨(fun hnil=>by rw [hnil] at hrA; cases hrA),fun k hk2=>?_⟩
   have hkF:k∈F.map (·.j):=by
    by_cases h:k∈(F.filter (fun x=>x.j != f.j)).map (·.j)
    ·obtain ⟨x,hx,rfl⟩:=List.mem_map.1 h
     exact List.mem_map.2 ⟨x,(List.mem_filter.1 hx).1,rfl⟩
    ·have:=ready_listAll (F:=(F.filter (fun x=>x.j != f.j)).map (·.j)) hsz (fun j hj=>by
      obtain ⟨p,hp,rfl⟩:=List.mem_map.1 hj
      exact List.mem_map.2 ⟨p.1,List.mem_filter.2 ⟨hA p hp,by simp only [bne_iff_ne,ne_eq]; intro e; exact hjA (List.mem_map.2 ⟨p,hp,e⟩)⟩,rfl⟩) hk2 h
     rw [h2] at this
     have:k=f.j:=by simpa using this
     subst this
     exact List.mem_map.2 ⟨f,hfF,rfl⟩
   obtain ⟨fl,hfl,rfl⟩:=List.mem_map.1 hkF
   have hnew:fl.j∉jsF A:=fun h=>by
    have h4:=(mem_ready.1 hk2).1
    obtain ⟨o,ho,_⟩:=(mem_ready.1 hk2).2
    have hlt:=(Array.getElem?_eq_some_iff.1 ho).1
    rw [kY,if_pos ⟨h,by rw [hsz]; exact hlt⟩] at h4; cases h4
   refine float_step (hF fl hfl) (har fl hfl).1 (fun p hp=>(har p.1 (hA p hp)).2) ha hst fun a' w' hfit hds' hst'=>?_
   have hcA':wE ops (yX listed (jsF ((fl,w.heap.size)::A))):=hcA.set hk2
   have H:=ih ((fl,w.heap.size)::A) (fun p hp=>by rcases List.mem_cons.1 hp with rfl|hp; exact hfl; exact hA p hp) (List.nodup_cons.2 ⟨hnew,hnd⟩) hcA' a' w' hfit (by rw [hds',hds]) hst' (by simp only [opsN,List.length_append,List.length_cons] at hf ⊢; omega)
   refine ⟨fun p hp=>?_,WG_sub _ _ _ _ _ _ (fun p hp=>.inl (List.mem_filter.1 hp).1) H⟩
   obtain ⟨q,hq',rfl⟩:=List.mem_map.1 (List.mem_filter.1 hp).1
   exact hW q hq' w' hst'.right
end
end
end Ab
namespace Ab
noncomputable section
def tb (m n:Nat):Bool:=Nat.beq (Nat.mod (Nat.shiftRight m n) 2) 1
theorem tb_eq (m n:Nat):tb m n=Nat.testBit m n:=by
 rw [Nat.testBit_eq_decide_div_mod_eq]
 unfold tb
 rw [show Nat.beq (Nat.mod (Nat.shiftRight m n) 2) 1=decide (Nat.mod (Nat.shiftRight m n) 2=1) from by rw [Bool.eq_iff_iff]; simp]
 rw [show Nat.shiftRight m n=m / 2 ^ n from Nat.shiftRight_eq_div_pow m n]
 rfl
def mskL :List Nat→Nat
 | []=>0
 | t::l=>Nat.lor (mskL l) (Nat.pow 2 t)
theorem mskL_bit :∀ (l:List Nat) (t:Nat),Nat.testBit (mskL l) t=l.contains t
 | [],t=>by simp [mskL]
 | x::l,t=>by
  simp only [mskL]
  rw [show Nat.lor (mskL l) (Nat.pow 2 x)=mskL l ||| 2 ^ x from rfl,Nat.testBit_or,mskL_bit l t,Nat.testBit_two_pow,List.contains_cons]
  rw [Bool.or_comm]
  congr 1
  rw [Bool.eq_iff_iff,decide_eq_true_eq,beq_iff_eq]; exact eq_comm
def bindA (e:Edge):Bool:=match e.ground with
 | .textOnly _=>false
 | .gcOnly _=>false
 | _=>true
theorem bindA_eq (e:Edge):bindA e=Region.binds .any e:=by
 obtain ⟨on,g⟩:=e
 cases g<;>rfl
def edM :List Edge→Nat
 | []=>0
 | e::l=>bif bindA e then Nat.lor (edM l) (Nat.pow 2 e.on) else edM l
theorem edM_bit :∀ (l:List Edge) (t:Nat),Nat.testBit (edM l) t=true↔∃ e∈l,Region.binds .any e=true∧e.on=t
 | [],t=>by simp [edM]
 | e::l,t=>by
  simp only [edM,cond_eq_ite,bindA_eq]
  split
  ·rename_i hb
   rw [show Nat.lor (edM l) (Nat.pow 2 e.on)=edM l ||| 2 ^ e.on from rfl,Nat.testBit_or,Bool.or_eq_true,edM_bit l t,Nat.testBit_two_pow]
   simp only [decide_eq_true_eq,List.mem_cons,exists_eq_or_imp,hb,true_and]
   exact or_comm
  ·rename_i hb
   rw [edM_bit l t]
   simp only [List.mem_cons,exists_eq_or_imp,hb,Bool.false_eq_true,false_and,false_or]
inductive I3 where
 | mk (p r w:Nat)
def dstM :Option Nat→Nat
 | some d=>Nat.pow 2 d
 | none=>0
def infoOf (ops:Array Oper) (o:Oper):I3:=.mk (edM o.after.toList) (mskL (o.looksAt ops)) (dstM o.dst)
def jZ (ops:Array Oper):List Oper→List I3
 | []=>[]
 | o::l=>infoOf ops o::jZ ops l
theorem infos_get (ops:Array Oper):∀ (l:List Oper) (k:Nat),(jZ ops l)[k]?=(l[k]?).map (infoOf ops)
 | [],k=>by simp [jZ]
 | o::l,0=>rfl
 | o::l,k+1=>by simp only [jZ,List.getElem?_cons_succ]; exact infos_get ops l k
def nthI :List I3→Nat→Option I3
 | [],_=>none
 | v::l,k=>bif Nat.beq k 0 then some v else nthI l (Nat.pred k)
theorem nthI_eq :∀ (l:List I3) (k:Nat),nthI l k=l[k]?
 | [],k=>by simp [nthI]
 | v::l,0=>rfl
 | v::l,k+1=>by
  rw [nthI]
  show (bif Nat.beq (k+1) 0 then some v else nthI l k)=_
  rw [nthI_eq l k]; rfl
def rdyI (m k:Nat):I3→Bool
 | .mk p _ _=>and (not (tb m k)) (Nat.beq (Nat.land p m) p)
def rdyN (is:List I3) (m k:Nat):Bool:=match nthI is k with
 | some i=>rdyI m k i
 | none=>false
def onlyI (i m:Nat):Nat→List I3→Bool
 | _,[]=>true
 | k,x::l=>and (or (Nat.beq k i) (not (rdyI m k x))) (onlyI i m (Nat.succ k) l)
def apI :I3→I3→Bool
 | .mk _ r w,.mk _ r' w'=>and (Nat.beq (Nat.land w (Nat.lor r' w')) 0) (Nat.beq (Nat.land w' r) 0)
def depI (i:Nat):I3→Bool
 | .mk p _ _=>tb p i
def freeI (i m:Nat) (x:I3):Nat→List I3→Bool
 | _,[]=>true
 | k,y::l=>and (or (Nat.beq k i) (or (tb m k) (or (depI i y) (apI x y)))) (freeI i m x (Nat.succ k) l)
def okM (is:List I3):Nat→Nat→List Item→Bool
 | fm,m,[]=>and (Nat.beq fm 0) (onlyI is.length m 0 is)
 | fm,m,.q i::s=>and (and (not (tb fm i)) (rdyN is m i)) (and (match nthI is i with|some x=>freeI i m x 0 is|none=>false) (okM is fm (Nat.lor m (Nat.pow 2 i)) s))
 | fm,m,.e i::s=>and (and (not (tb fm i)) (rdyN is m i)) (and (and (rdyN is (Nat.lor m fm) i) (onlyI i (Nat.lor m fm) 0 is)) (okM is fm (Nat.lor m (Nat.pow 2 i)) s))
 | fm,m,.now j::s=>and (and (tb fm j) (rdyN is m j)) (and (and (rdyN is (Nat.lor m (Nat.xor fm (Nat.pow 2 j))) j) (onlyI j (Nat.lor m (Nat.xor fm (Nat.pow 2 j))) 0 is)) (okM is (Nat.xor fm (Nat.pow 2 j)) (Nat.lor m (Nat.pow 2 j)) s))
 | fm,m,.fl j::s=>and (and (not (tb fm j)) (rdyN is m j)) (okM is (Nat.lor fm (Nat.pow 2 j)) m s)
section
variable {ops:Array Oper}
theorem land_sub {p m:Nat}:Nat.beq (Nat.land p m) p=true↔∀ t,Nat.testBit p t=true→Nat.testBit m t=true:=by
 rw [Nat.beq_eq]
 constructor
 ·intro h t ht
  have h1:(p &&& m).testBit t=p.testBit t:=congrArg (fun x=>Nat.testBit x t) h
  rw [Nat.testBit_and,ht] at h1
  simpa using h1
 ·intro h
  apply Nat.eq_of_testBit_eq
  intro t
  show (p &&& m).testBit t=_
  rw [Nat.testBit_and]
  cases hp:p.testBit t with
  | false=>rfl
  | true=>rw [h t hp]; rfl
theorem land_zero {a b:Nat}:Nat.beq (Nat.land a b) 0=true↔∀ t,¬ (Nat.testBit a t=true∧Nat.testBit b t=true):=by
 rw [Nat.beq_eq]
 constructor
 ·rintro h t ⟨h1,h2⟩
  have h3:(a &&& b).testBit t=(0:Nat).testBit t:=congrArg (fun x=>Nat.testBit x t) h
  rw [Nat.testBit_and,h1,h2] at h3
  simp at h3
 ·intro h
  apply Nat.eq_of_testBit_eq
  intro t
  show (a &&& b).testBit t=_
  rw [Nat.testBit_and,Nat.zero_testBit]
  cases h1:a.testBit t with
  | false=>rfl
  | true =>
   cases h2:b.testBit t with
   | false=>rfl
   | true=>exact absurd ⟨h1,h2⟩ (h t)
def Lst (ops:Array Oper) (listed:Array Bool) (m:Nat):Prop:=listed.size=ops.size∧∀ k,k<ops.size→∀ b,listed.getD k b=Nat.testBit m k
theorem Lst.get {listed:Array Bool} {m:Nat} (h:Lst ops listed m) {k:Nat} (hk:k<ops.size) (b:Bool):listed.getD k b=Nat.testBit m k:=h.2 k hk b
theorem rdy_iff {listed:Array Bool} {m:Nat} (h:Lst ops listed m) (hb:∀ k,ops.size≤k→Nat.testBit m k=false) {k:Nat}:k∈Region.ready .any ops listed↔rdyN (jZ ops ops.toList) m k=true:=by
 unfold rdyN
 rw [mem_ready,nthI_eq,infos_get]
 constructor
 ·rintro ⟨h1,o,ho,h2⟩
  have hk:=(Array.getElem?_eq_some_iff.1 ho).1
  rw [h.get hk] at h1
  rw [show ops.toList[k]?=some o by simpa using ho]
  show rdyI m k (infoOf ops o)=true
  simp only [infoOf,rdyI,tb_eq,h1,Bool.not_false,Bool.true_and]
  rw [land_sub]
  intro t ht
  obtain ⟨e,he,hb2,rfl⟩:=(edM_bit _ _).1 ht
  have:=h2 e (by simpa using he) hb2
  by_cases hlt:e.on<ops.size
  ·rw [h.get hlt] at this; exact this
  ·rw [Array.getD_eq_getD_getElem?,Array.getElem?_eq_none (by rw [h.1]; omega)] at this; cases this
 ·intro hr
  cases ho:ops.toList[k]? with
  | none=>rw [ho] at hr; simp at hr
  | some o =>
   rw [ho] at hr
   have ho':ops[k]?=some o:=by simpa using ho
   have hk:=(Array.getElem?_eq_some_iff.1 ho').1
   have hr:rdyI m k (infoOf ops o)=true:=hr
   simp only [infoOf,rdyI,tb_eq,Bool.and_eq_true,Bool.not_eq_true'] at hr
   refine ⟨by rw [h.get hk]; exact hr.1,o,ho',fun e he hb2=>?_⟩
   have:=land_sub.1 hr.2 e.on ((edM_bit _ _).2 ⟨e,by simpa using he,hb2,rfl⟩)
   by_cases hlt:e.on<ops.size
   ·rw [h.get hlt]; exact this
   ·rw [hb e.on (by omega)] at this; cases this
theorem only_iff {i m:Nat}:∀ {l:List I3} {k:Nat},onlyI i m k l=true→∀ j x,l[j]?=some x→k+j=i∨rdyI m (k+j) x=false
 | [],k,_,j,x,hj=>by simp at hj
 | y::l,k,h,0,x,hj=>by
  simp only [onlyI,Bool.and_eq_true,Bool.or_eq_true,Nat.beq_eq,Bool.not_eq_true'] at h
  simp only [List.getElem?_cons_zero,Option.some.injEq] at hj; subst hj
  exact h.1
 | y::l,k,h,j+1,x,hj=>by
  simp only [onlyI,Bool.and_eq_true] at h
  have:=only_iff h.2 j x (by simpa using hj)
  rw [show k+(j+1)=Nat.succ k+j by simp; omega]; exact this
theorem nodup_ready (listed:Array Bool):(Region.ready .any ops listed).Nodup:=by
 unfold Region.ready; exact List.nodup_range.filter _
theorem one_of {l:List Nat} (hn:l.Nodup) {i:Nat} (hi:i∈l) (h:∀ k∈l,k=i):l=[i]:=by
 cases l with
 | nil=>cases hi
 | cons a l =>
  have ha:=h a (by simp)
  subst ha
  cases l with
  | nil=>rfl
  | cons b l =>
   have hb:=h b (by simp)
   subst hb
   exact absurd (List.nodup_cons.1 hn).1 (by simp)
theorem ready_one {listed:Array Bool} {m i:Nat} (h:Lst ops listed m) (hb:∀ k,ops.size≤k→Nat.testBit m k=false) (h1:rdyN (jZ ops ops.toList) m i=true) (h2:onlyI i m 0 (jZ ops ops.toList)=true):Region.ready .any ops listed=[i]:=by
 refine one_of (nodup_ready listed) ((rdy_iff h hb).2 h1) fun k hk=>?_
 have hk:=(rdy_iff h hb).1 hk
 unfold rdyN at hk
 rw [nthI_eq] at hk
 cases hx:(jZ ops ops.toList)[k]? with
 | none=>rw [hx] at hk; cases hk
 | some x =>
  rw [hx] at hk
  have hk:rdyI m k x=true:=hk
  rcases only_iff h2 k x hx with h3|h3
  ·rw [Nat.zero_add] at h3; exact h3
  ·rw [Nat.zero_add,hk] at h3; cases h3
theorem free_iff {i m:Nat} {x:I3}:∀ {l:List I3} {k:Nat},freeI i m x k l=true→∀ j y,l[j]?=some y→k+j=i∨Nat.testBit m (k+j)=true∨depI i y=true∨apI x y=true
 | [],k,_,j,y,hj=>by simp at hj
 | z::l,k,h,0,y,hj=>by
  simp only [freeI,Bool.and_eq_true,Bool.or_eq_true,Nat.beq_eq,tb_eq] at h
  simp only [List.getElem?_cons_zero,Option.some.injEq] at hj; subst hj
  exact h.1
 | z::l,k,h,j+1,y,hj=>by
  simp only [freeI,Bool.and_eq_true] at h
  have:=free_iff h.2 j y (by simpa using hj)
  rw [show k+(j+1)=Nat.succ k+j by simp; omega]; exact this
theorem ap_of {a b:Oper} (h:apI (infoOf ops a) (infoOf ops b)=true):a.apart ops b=true:=by
 simp only [infoOf,apI,Bool.and_eq_true,land_zero] at h
 obtain ⟨h1,h2⟩:=h
 have hor:∀ x y t,Nat.testBit (Nat.lor x y) t=(Nat.testBit x t||Nat.testBit y t):=fun x y t=>Nat.testBit_or x y t
 unfold Oper.apart
 simp only [Bool.and_eq_true]
 refine ⟨?_,?_⟩
 ·cases hd:a.dst with
  | none=>rfl
  | some d =>
   have h3:=h1 d
   rw [hd] at h3
   simp only [dstM] at h3
   rw [show Nat.testBit (Nat.pow 2 d) d=true from Nat.testBit_two_pow_self,hor,mskL_bit] at h3
   simp only [true_and,Bool.or_eq_true,not_or,Bool.not_eq_true] at h3
   have h4:b.dst≠some d:=fun e=>by
    have:=h3.2
    rw [e] at this
    simp only [dstM] at this
    rw [show Nat.testBit (Nat.pow 2 d) d=true from Nat.testBit_two_pow_self] at this; cases this
   have h5:=h3.1
   simp only [Bool.and_eq_true,Bool.not_eq_true',bne_iff_ne,ne_eq]
   exact ⟨h5,h4⟩
 ·cases hd:b.dst with
  | none=>rfl
  | some d =>
   have h3:=h2 d
   rw [hd] at h3
   simp only [dstM] at h3
   rw [show Nat.testBit (Nat.pow 2 d) d=true from Nat.testBit_two_pow_self,mskL_bit] at h3
   simp only [true_and,Bool.not_eq_true] at h3
   simp only [Bool.not_eq_true']
   exact h3
theorem Lst.set {listed:Array Bool} {m i:Nat} (h:Lst ops listed m):Lst ops (listed.setIfInBounds i true) (Nat.lor m (Nat.pow 2 i)):=by
 refine ⟨by simpa using h.1,fun k hk b=>?_⟩
 rw [show Nat.testBit (Nat.lor m (Nat.pow 2 i)) k=(Nat.testBit m k||Nat.testBit (2 ^ i) k) from Nat.testBit_or _ _ _,Nat.testBit_two_pow]
 by_cases hik:i=k
 ·subst hik
  rw [Array.getD_eq_getD_getElem?,Array.getElem?_setIfInBounds,if_pos O,if_pos (by rw [h.1]; exact hk)]; simp
 ·rw [getD_set_ne b hik,h.get hk]; simp [hik]
theorem Lst.all {listed:Array Bool} {m fm:Nat} (h:Lst ops listed m) {F:List Nat} (hF:∀ k,Nat.testBit fm k=F.contains k):Lst ops (yX listed F) (Nat.lor m fm):=by
 refine ⟨by rw [listAll_size]; exact h.1,fun k hk b=>?_⟩
 rw [show Nat.testBit (Nat.lor m fm) k=(Nat.testBit m k||Nat.testBit fm k) from Nat.testBit_or _ _ _,hF,kY,h.get hk]
 by_cases hkF:k∈F
 ·rw [if_pos ⟨hkF,by rw [h.1]; exact hk⟩]; simp [hkF]
 ·rw [if_neg (fun h=>hkF h.1)]; simp [hkF]
theorem above_set {m i:Nat} (hb:∀ k,ops.size≤k→Nat.testBit m k=false) (hi:i<ops.size):∀ k,ops.size≤k→Nat.testBit (Nat.lor m (Nat.pow 2 i)) k=false:=fun k hk=>by
 rw [show Nat.testBit (Nat.lor m (Nat.pow 2 i)) k=(Nat.testBit m k||Nat.testBit (2 ^ i) k) from Nat.testBit_or _ _ _,hb k hk,Nat.testBit_two_pow]
 simp; omega
theorem above_or {m fm:Nat} (hb:∀ k,ops.size≤k→Nat.testBit m k=false) (hf:∀ k,ops.size≤k→Nat.testBit fm k=false):∀ k,ops.size≤k→Nat.testBit (Nat.lor m fm) k=false:=fun k hk=>by
 rw [show Nat.testBit (Nat.lor m fm) k=(Nat.testBit m k||Nat.testBit fm k) from Nat.testBit_or _ _ _,hb k hk,hf k hk]; rfl
theorem rdy_lt {m k:Nat} (h:rdyN (jZ ops ops.toList) m k=true):k<ops.size:=by
 unfold rdyN at h
 rw [nthI_eq,infos_get] at h
 cases ho:ops.toList[k]? with
 | none=>rw [ho] at h; cases h
 | some o =>
  have:=(List.getElem?_eq_some_iff.1 ho).1
  simpa using this
theorem okM_ok :∀ (s:List Item) (F:List Nat) (fm m:Nat) (listed:Array Bool),okM (jZ ops ops.toList) fm m s=true→Lst ops listed m→(∀ k,ops.size≤k→Nat.testBit m k=false)→(∀ k,Nat.testBit fm k=F.contains k)→(∀ k,ops.size≤k→Nat.testBit fm k=false) →
  jM ops F listed s=true
 | [],F,fm,m,listed,h,hl,hb,hF,hfb=>by
  simp only [okM,Bool.and_eq_true,Nat.beq_eq] at h
  obtain ⟨rfl,h2⟩:=h
  simp only [jM,Bool.and_eq_true,beq_iff_eq]
  refine ⟨?_,?_⟩
  ·cases F with
   | nil=>rfl
   | cons j F=>have:=hF j; simp at this
  ·cases hr:Region.ready .any ops listed with
   | nil=>rfl
   | cons k l =>
    have hk:k∈Region.ready .any ops listed:=by rw [hr]; simp
    have hk2:=(rdy_iff hl hb).1 hk
    have hlt:=rdy_lt hk2
    unfold rdyN at hk2
    rw [nthI_eq] at hk2
    cases hx:(jZ ops ops.toList)[k]? with
    | none=>rw [hx] at hk2; cases hk2
    | some x =>
     rw [hx] at hk2
     have hk2:rdyI m k x=true:=hk2
     have hlen:(jZ ops ops.toList).length=ops.size:=by
      have:∀ l:List Oper,(jZ ops l).length=l.length:=by
       intro l
       induction l with
       | nil=>rfl
       | cons o l ih=>simp [jZ,ih]
      rw [this]; simp
     rcases only_iff h2 k x hx with h3|h3
     ·rw [Nat.zero_add,hlen] at h3; omega
     ·rw [Nat.zero_add,hk2] at h3; cases h3
 | .q i::s,F,fm,m,listed,h,hl,hb,hF,hfb=>by
  simp only [okM,Bool.and_eq_true,Bool.not_eq_true',tb_eq] at h
  obtain ⟨⟨h1,h2⟩,h3,h4⟩:=h
  have hi:=rdy_lt h2
  simp only [jM,Bool.and_eq_true,Bool.not_eq_true']
  refine ⟨⟨⟨by rw [← hF]; exact h1,by simpa using (rdy_iff hl hb).2 h2⟩,?_⟩,okM_ok s F fm _ _ h4 hl.set (above_set hb hi) hF hfb⟩
  rw [nthI_eq,infos_get] at h3
  cases ho:ops.toList[i]? with
  | none=>rw [ho] at h3; cases h3
  | some o =>
   rw [ho] at h3
   have h3:freeI i m (infoOf ops o) 0 (jZ ops ops.toList)=true:=h3
   have ho':ops[i]?=some o:=by simpa using ho
   unfold Region.free
   rw [ho']
   simp only
   rw [List.all_eq_true]
   intro j hj
   have hj:=List.mem_range.1 hj
   have hoj:∃ oj,ops[j]?=some oj:=⟨ops[j],Array.getElem?_eq_getElem hj⟩
   obtain ⟨oj,hoj⟩:=hoj
   have hx:(jZ ops ops.toList)[j]?=some (infoOf ops oj):=by rw [infos_get,show ops.toList[j]?=some oj by simpa using hoj]; rfl
   have:=free_iff h3 j _ hx
   rw [Nat.zero_add] at this
   simp only [hoj,Bool.or_eq_true,beq_iff_eq,hl.get hj]
   rcases this with h5|h5|h5|h5
   ·exact .inl (.inl h5)
   ·exact .inl (.inr h5)
   ·refine .inr (.inl ?_)
    have h5:tb (edM oj.after.toList) i=true:=h5
    rw [tb_eq] at h5
    obtain ⟨e,he,hb2,rfl⟩:=(edM_bit _ _).1 h5
    rw [Array.any_eq_true']
    exact ⟨e,by simpa using he,by simp [hb2]⟩
   ·exact .inr (.inr (ap_of h5))
 | .e i::s,F,fm,m,listed,h,hl,hb,hF,hfb=>by
  simp only [okM,Bool.and_eq_true,Bool.not_eq_true',tb_eq] at h
  obtain ⟨⟨h1,h2⟩,⟨h3,h4⟩,h5⟩:=h
  have hi:=rdy_lt h2
  simp only [jM,Bool.and_eq_true,Bool.not_eq_true',beq_iff_eq]
  exact ⟨⟨⟨by rw [← hF]; exact h1,by simpa using (rdy_iff hl hb).2 h2⟩,ready_one (hl.all hF) (above_or hb hfb) h3 h4⟩,okM_ok s F fm _ _ h5 hl.set (above_set hb hi) hF hfb⟩
 | .now j::s,F,fm,m,listed,h,hl,hb,hF,hfb=>by
  simp only [okM,Bool.and_eq_true,tb_eq] at h
  obtain ⟨⟨h1,h2⟩,⟨h3,h4⟩,h5⟩:=h
  have hi:=rdy_lt h2
  have hx:∀ k,Nat.testBit (Nat.xor fm (Nat.pow 2 j)) k=(F.filter (· != j)).contains k:=fun k=>by
   rw [show Nat.testBit (Nat.xor fm (Nat.pow 2 j)) k=(Nat.testBit fm k ^^ Nat.testBit (2 ^ j) k) from Nat.testBit_xor _ _ _,Nat.testBit_two_pow,hF]
   by_cases hjk:j=k
   ·subst hjk
    have:F.contains j=true:=by rw [← hF]; exact h1
    rw [this]
    rw [Bool.eq_iff_iff]; simp
   ·rw [Bool.eq_iff_iff]
    simp [hjk,Ne.symm hjk]
  have hxb:∀ k,ops.size≤k→Nat.testBit (Nat.xor fm (Nat.pow 2 j)) k=false:=fun k hk=>by
   rw [show Nat.testBit (Nat.xor fm (Nat.pow 2 j)) k=(Nat.testBit fm k ^^ Nat.testBit (2 ^ j) k) from Nat.testBit_xor _ _ _,hfb k hk,Nat.testBit_two_pow]
   simp; omega
  simp only [jM,Bool.and_eq_true,beq_iff_eq]
  exact ⟨⟨⟨by rw [← hF]; exact h1,by simpa using (rdy_iff hl hb).2 h2⟩,ready_one (hl.all hx) (above_or hb hxb) h3 h4⟩,okM_ok s _ _ _ _ h5 hl.set (above_set hb hi) hx hxb⟩
 | .fl j::s,F,fm,m,listed,h,hl,hb,hF,hfb=>by
  simp only [okM,Bool.and_eq_true,Bool.not_eq_true',tb_eq] at h
  obtain ⟨⟨h1,h2⟩,h3⟩:=h
  have hj:=rdy_lt h2
  simp only [jM,Bool.and_eq_true,Bool.not_eq_true']
  refine ⟨by rw [← hF]; exact h1,okM_ok s (F++[j]) _ m _ h3 hl hb (fun k=>?_) (above_set hfb hj)⟩
  rw [show Nat.testBit (Nat.lor fm (Nat.pow 2 j)) k=(Nat.testBit fm k||Nat.testBit (2 ^ j) k) from Nat.testBit_or _ _ _,Nat.testBit_two_pow,hF]
  rw [Bool.eq_iff_iff]
  simp only [Bool.or_eq_true,List.contains_iff_mem,decide_eq_true_eq,List.mem_append,List.mem_singleton]
  constructor
  ·rintro (h|h)
   ·exact .inl h
   ·exact .inr h.symm
  ·rintro (h|h)
   ·exact .inl h
   ·exact .inr h.symm
theorem okM_start {F:List Nat} {s:List Item} (hF:∀ j∈F,j<ops.size) (h:okM (jZ ops ops.toList) (mskL F) 0 s=true):jM ops F (Array.replicate ops.size false) s=true:=by
 refine okM_ok s F _ 0 _ h ⟨by simp,fun k hk b=>?_⟩ (fun k _=>Nat.zero_testBit k) (fun k=>mskL_bit F k) (fun k hk=>?_)
 ·rw [Array.getD_eq_getD_getElem?,Array.getElem?_replicate,if_pos hk,Nat.zero_testBit]; rfl
 ·rw [mskL_bit]
  cases hc:F.contains k with
  | false=>rfl
  | true=>have:=hF k (by simpa using hc); omega
end
end
end Ab
end Sl
end Go.Proofs.YtnkiahopaaibhaaGreat
