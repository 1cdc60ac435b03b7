/-
  What nodeKnown.proved hangs on, part 3 of 6: EvQ, EvR, EvS, EvT, EvU, EvVa, EvVb, EvVc, EvVd, EvVf.
-/
import Derived.Test.YtnkiahopaaibhaaGreatNk2
set_option linter.unusedVariables false
set_option linter.unusedSimpArgs false
namespace Go.Proofs.YtnkiahopaaibhaaGreat
open Go Go.RowKit
namespace Sl
namespace Ab
noncomputable section
structure S where
 E:En
 H:T AO
 nx:Nat
 D:List (Nat × List AV × List AV)
inductive Ex where|normal|exit (k:Nat)|ret
inductive Rs where
 | ok (e:Ex) (s:S)|val (v:AV) (H:T AO) (nx:Nat)|bad (why:Nat)
inductive Tk where
 | code (n:Nat) (c:Code) (s:S)|fn (k:Nat) (vs:List AV) (H:T AO) (nx:Nat)|dfn (k:Nat) (vs:List AV) (H:T AO) (nx:Nat)
abbrev jJ :=List AV→T AO→Nat→Option Eff
inductive Out where
 | val (r:Eff)|call (k:Nat) (vs:List AV)|dfr (k:Nat) (cap vs:List AV)|bad
def ofE :Option Eff→Out
 | some r=>.val r
 | none=>.bad
def ofP (H:T AO) (nx:Nat):Option AV→Out
 | some v=>.val (v,H,nx)
 | none=>.bad
def loadO (TT:Nat→Option TI) (E:En) (H:T AO) (t:TypeId) (x:Operand):Option (AV × Nat × Nat):=match yV E x with
 | some (.p id off)=>match loadA TT H t id off with
  | some v=>some (v,id,off)
  | none=>none
 | _=>none
def appO (TT:Nat→Option TI) (E:En) (H:T AO) (nx:Nat) (args:List Operand) (ts:List TypeId):Option Eff:=match args with
 | [x,y]=>match ts with
  | [t,tx]=>match yV E x with
   | none=>none
   | some a=>match yV E y with
    | none=>none
    | some b=>match jF TT t with
     | some (.slice e)=>match vF TT e with
      | none=>none
      | some sz=>match bytT TT e with
       | none=>none
       | some by'=>bif and (Nat.blt 0 sz) (Nat.blt 0 by') then (match srcZ TT H e sz tx b with
        | none=>none
        | some (m,l)=>appA TT H nx e sz m l a) else none
     | _=>none
  | _=>none
 | _=>none
def cpO (TT:Nat→Option TI) (E:En) (H:T AO) (nx:Nat) (args:List Operand) (ts:List TypeId):Option Eff:=match args with
 | [x,y]=>match ts with
  | [t,tx]=>match yV E x with
   | none=>none
   | some a=>match yV E y with
    | none=>none
    | some b=>match jF TT t with
     | some (.slice e)=>match vF TT e with
      | none=>none
      | some sz=>copyA TT H nx e sz a b
     | _=>none
  | _=>none
 | _=>none
def dlO (TT:Nat→Option TI) (E:En) (H:T AO) (nx:Nat) (args:List Operand) (ts:List TypeId):Option Eff:=match args with
 | [x,y]=>match ts with
  | [t,tx]=>match yV E x with
   | none=>none
   | some a=>match yV E y with
    | none=>none
    | some b=>delA TT H nx t a b
  | _=>none
 | _=>none
def clO (TT:Nat→Option TI) (E:En) (H:T AO) (nx:Nat) (args:List Operand) (ts:List TypeId):Option Eff:=match args with
 | [x]=>match ts with
  | [t]=>match yV E x with
   | none=>none
   | some a=>clrA TT H nx t a
  | _=>none
 | _=>none
def lnO (TT:Nat→Option TI) (E:En) (H:T AO) (nx:Nat) (args:List Operand) (ts:List TypeId):Option Eff:=match args with
 | [x]=>match ts with
  | [t]=>match yV E x with
   | none=>none
   | some a=>lenMA TT H nx t a
  | _=>none
 | _=>none
def cutH (TT:Nat→Option TI) (E:En) (H:T AO) (nx:Nat) (t:TypeId) (x:Operand) (lo hi mx:Option Operand):Option Eff:=match mx with
 | some _=>none
 | none=>match yV E x with
  | some (.sl id off _ cap false)=>match bndA E 0 lo with
   | none=>none
   | some l=>match hi with
    | none=>none
    | some y=>match bndA E 0 (some y) with
     | none=>none
     | some k=>match jF TT t with
      | some (.slice e)=>match vF TT e with
       | none=>none
       | some sz=>match H.get id with
        | some (.c e' n false s)=>bif and (and (Nat.beq e e') (Nat.blt l k)) (and (Nat.blt 0 sz) (Nat.ble (Nat.mul (Nat.add cap k) sz) n)) then some (.sl id (Nat.add off (Nat.mul l sz)) (Nat.sub k l) (Nat.add cap l) false,H,nx) else none
        | _=>none
      | _=>none
  | _=>none
def doE (TT:Nat→Option TI) (E:En) (H:T AO) (nx:Nat):Op→Option Eff
 | .alloc t=>allocA TT H nx t
 | .box t x=>boxA H E nx t x
 | .buildSlice t len parts=>buildSA TT H E nx t len parts
 | .store t x y=>storeA TT H E nx t x y
 | .makeSlice t x y=>makeSA TT H E nx t x y
 | .call c=>match c.callee with
  | .builtin .append=>appO TT E H nx c.args.toList c.argTypes.toList
  | .builtin .copy=>cpO TT E H nx c.args.toList c.argTypes.toList
  | .builtin .delete=>dlO TT E H nx c.args.toList c.argTypes.toList
  | .builtin .clear=>clO TT E H nx c.args.toList c.argTypes.toList
  | .builtin .len=>lnO TT E H nx c.args.toList c.argTypes.toList
  | _=>none
 | .makeMap t r=>makeMA H nx r
 | .lookup t x i ok=>lookAny TT H E nx t x i ok
 | .mapUpdate t m k v=>mapUAny TT H E nx t m k v
 | .range t x=>rangeA TT H E nx t x
 | .next it b=>nextA H E nx it b
 | .slice t x lo hi mx=>cutH TT E H nx t x lo hi mx
 | _=>none
def yU (TT:Nat→Option TI) (E:En) (H:T AO) (nx:Nat) (op:Op):Out:=match op with
 | .load t x=>match loadO TT E H t x with
  | some (v,_,_)=>.val (v,H,nx)
  | none=>.bad
 | .alloc t=>ofE (doE TT E H nx (.alloc t))
 | .box t x=>ofE (doE TT E H nx (.box t x))
 | .buildSlice t len parts=>ofE (doE TT E H nx (.buildSlice t len parts))
 | .store t x y=>ofE (doE TT E H nx (.store t x y))
 | .makeSlice t x y=>ofE (doE TT E H nx (.makeSlice t x y))
 | .call c=>match c.callee with
  | .value f=>match yV E f with
   | some (.f k first cap)=>match opndL E c.args.toList with
    | some vs=>.call k (first++(vs++cap))
    | none=>.bad
   | _=>.bad
  | .builtin .append=>ofE (doE TT E H nx (.call c))
  | .builtin .copy=>ofE (doE TT E H nx (.call c))
  | .builtin .clear=>ofE (doE TT E H nx (.call c))
  | .builtin .delete=>ofE (doE TT E H nx (.call c))
  | .builtin .len=>match doP TT E (.call c) with
   | some v=>.val (v,H,nx)
   | none=>ofE (doE TT E H nx (.call c))
  | .builtin _=>ofP H nx (doP TT E (.call c))
  | _=>.bad
 | .defer c=>match c.callee with
  | .value f=>match yV E f with
   | some (.f k [] cap)=>match opndL E c.args.toList with
    | some vs=>.dfr k cap vs
    | none=>.bad
   | _=>.bad
  | _=>.bad
 | .makeMap t r=>ofE (doE TT E H nx (.makeMap t r))
 | .lookup t x i ok=>ofE (doE TT E H nx (.lookup t x i ok))
 | .mapUpdate t m k v=>ofE (doE TT E H nx (.mapUpdate t m k v))
 | .range t x=>ofE (doE TT E H nx (.range t x))
 | .next it b=>ofE (doE TT E H nx (.next it b))
 | .convert a b x=>match doP TT E (.convert a b x) with
  | some v=>.val (v,H,nx)
  | none=>ofE (doE TT E H nx (.convert a b x))
 | .binOp o t x y ty=>match doP TT E (.binOp o t x y ty) with
  | some v=>.val (v,H,nx)
  | none=>ofE (doE TT E H nx (.binOp o t x y ty))
 | .slice t x lo hi mx=>match doP TT E (.slice t x lo hi mx) with
  | some v=>.val (v,H,nx)
  | none=>ofE (doE TT E H nx (.slice t x lo hi mx))
 | op=>ofP H nx (doP TT E op)
def wA (ops:Array Oper) (E:En):Option (Nat × Bool)→Option Bool
 | none=>some true
 | some (j,w)=>match (ops[j]?).bind (·.dst) with
  | none=>some false
  | some d=>match E.get d with
   | some (.b x)=>some (x==w)
   | some (.tu _)=>some false
   | _=>none
def why (c:Nat) (d:Option Nat):Nat:=match d with
 | some d=>Nat.add (Nat.mul 100 d) c
 | none=>Nat.add 990000 c
def whyF (k w:Nat):Nat:=bif Nat.blt w 1000000 then Nat.add w (Nat.mul 1000000 (Nat.succ k)) else w
def uI (n:Nat):Option Nat→Bool
 | none=>true
 | some d=>Nat.blt d n
def isQuiet (TT:Nat→Option TI):Op→Bool
 | .load ..|.move _|.assign _|.pick ..|.build ..|.nilCheck _|.unOp ..|.makeFunc ..|.fieldAddr ..|.field ..|.indexAddr ..|.index ..|.extract ..|.slice ..|.makeInterface ..|.typeAssert ..=>true
 | .binOp ..=>true
 | .convert ..=>true
 | .call c=>match c.callee with
  | .builtin .len=>(match c.argTypes.toList with
   | t::_=>(match jF TT t with
    | some (.map _ _)=>false
    | _=>true)
   | _=>true)
  | .builtin .cap=>true
  | .builtin .min=>true
  | .builtin .max=>true
  | _=>false
 | _=>false
def fltC :Op→Option Nat
 | .alloc t=>bif Nat.blt t 1048576 then some (Nat.mul 2 t) else none
 | .makeMap t r=>match r with
  | none=>some (Nat.succ (Nat.mul 2 t))
  | some _=>none
 | _=>none
def floatsOf :List Oper→Nat→List Nat
 | [],_=>[]
 | o::l,k=>match fltC o.op,o.guard,o.dst with
  | some _,none,some _=>k::floatsOf l (Nat.succ k)
  | _,_,_=>floatsOf l (Nat.succ k)
def quietL (TT:Nat→Option TI):List Oper→List Bool
 | []=>[]
 | o::l=>isQuiet TT o.op::quietL TT l
def scanQ (fm m:Nat):Nat→List I3→List Bool→Option Nat
 | k,x::l,q::qs=>bif and q (and (rdyI m k x) (not (tb fm k))) then some k else scanQ fm m (Nat.succ k) l qs
 | _,_,_=>none
def scanA (fm m:Nat) (fl:Bool):Nat→List I3→Option Nat
 | k,x::l=>bif and (rdyI m k x) (tb fm k==fl) then some k else scanA fm m fl (Nat.succ k) l
 | _,_=>none
def scanB (fm m i:Nat):Nat→List I3→Option Nat
 | k,x::l=>bif and (not (Nat.beq k i)) (and (rdyI m k x) (not (tb fm k))) then some k else scanB fm m i (Nat.succ k) l
 | _,[]=>none
def bldC :Op→Option Nat
 | .buildSlice t len parts=>match len with
  | 1=>match parts.toList with
   | [(0,.tmp x)]=>bif Nat.blt t 1048576 then some (Nat.mul 2 (Nat.add t (Nat.mul 1048576 (Nat.succ x)))) else none
   | _=>none
  | _=>none
 | _=>none
def bldAt (ops:Array Oper) (i:Nat):Bool:=match ops[i]? with
 | some o=>match bldC o.op,o.dst,o.guard with
  | some _,some _,none=>true
  | _,_,_=>false
 | none=>false
def planGo (ops:Array Oper) (is:List I3) (qs:List Bool):Nat→List Nat→Nat→Nat→List Item
 | 0,_,_,_=>[]
 | f+1,F,fm,m=>match scanQ fm m 0 is qs with
  | some i=>.q i::planGo ops is qs f F fm (Nat.lor m (Nat.pow 2 i))
  | none=>match (match scanA fm m false 0 is with
   | none=>none
   | some i=>bif onlyI i (Nat.lor m fm) 0 is then some (Item.e i) else bif bldAt ops i then some (Item.fl i) else match scanB fm m i 0 is with
    | some j=>bif bldAt ops j then some (Item.fl j) else none
    | none=>none) with
   | some (.e i)=>.e i::planGo ops is qs f F fm (Nat.lor m (Nat.pow 2 i))
   | some (.fl i)=>.fl i::planGo ops is qs f (F++[i]) (Nat.lor fm (Nat.pow 2 i)) m
   | _=>match F with
    | []=>[]
    | j::F=>.now j::planGo ops is qs f F (Nat.xor fm (Nat.pow 2 j)) (Nat.lor m (Nat.pow 2 j))
def noSelL :List Oper→Bool
 | []=>true
 | o::l=>match o.op with
  | .select _ _=>false
  | _=>noSelL l
def planOf (TT:Nat→Option TI) (ops:Array Oper):Option (List Nat × List Item) :=
 let F:=floatsOf ops.toList 0
 let is:=jZ ops ops.toList
 let s:=planGo ops is (quietL TT ops.toList) (Nat.mul 2 is.length) F (mskL F) 0
 bif and (and (Nat.beq (opsN s) ops.size) (noSelL ops.toList)) (okM is (mskL F) 0 s) then some (F,s) else none
theorem floats_lt :∀ (l:List Oper) (k:Nat),∀ j∈floatsOf l k,j<k+l.length
 | [],k,j,h=>by cases h
 | o::l,k,j,h=>by
  simp only [floatsOf] at h
  split at h
  ·rcases List.mem_cons.1 h with rfl|h
   ·simp
   ·have:=floats_lt l _ j h; simp at this ⊢; omega
  ·have:=floats_lt l _ j h; simp at this ⊢; omega
theorem noSelL_ok :∀ {l:List Oper},noSelL l=true→∀ o∈l,∀ cs b,o.op≠.select cs b
 | [],_,o,h,_,_=>by cases h
 | o'::l,hn,o,h,cs,b=>by
  simp only [noSelL] at hn
  split at hn
  ·cases hn
  ·rename_i hne
   rcases List.mem_cons.1 h with rfl|h
   ·exact fun e=>hne _ _ e
   ·exact noSelL_ok hn o h cs b
theorem planOf_ok {TT:Nat→Option TI} {ops:Array Oper} {F:List Nat} {s:List Item} (h:planOf TT ops=some (F,s)):opsN s=ops.size∧Region.noSelect ops=true∧jM ops F (Array.replicate ops.size false) s=true:=by
 unfold planOf at h
 simp only [cond_eq_ite,Bool.and_eq_true,Nat.beq_eq] at h
 split at h
 ·rename_i hc
  simp only [Option.some.injEq,Prod.mk.injEq] at h
  obtain ⟨rfl,rfl⟩:=h
  obtain ⟨⟨h1,h2⟩,h3⟩:=hc
  refine ⟨h1,?_,okM_start (fun j hj=>?_) h3⟩
  ·unfold Region.noSelect
   rw [Array.all_eq_true_iff_forall_mem]
   intro o ho
   have:=noSelL_ok h2 o (by simpa using ho)
   split
   ·rename_i cs b e; exact absurd e (this cs b)
   ·rfl
  ·have:=floats_lt ops.toList 0 j hj; simpa using this
 ·cases h
mutual
def eqV :AV→AV→Bool
 | .b x,.b y=>x==y
 | .i k u,.i k' w=>and (decide (k=k')) (Nat.beq u w)
 | .s l n,.s l' n'=>and (Nat.beq l l') (Nat.beq n n')
 | .p a b,.p c d=>and (Nat.beq a c) (Nat.beq b d)
 | .np,.np=>true
 | .sl a b c d e,.sl a' b' c' d' e'=>and (and (Nat.beq a a') (Nat.beq b b')) (and (and (Nat.beq c c') (Nat.beq d d')) (e==e'))
 | .ns,.ns=>true
 | .nf,.nf=>true
 | .nm,.nm=>true
 | .ni,.ni=>true
 | .m a,.m b=>Nat.beq a b
 | .it t a,.it t' b=>and (Nat.beq t t') (eqV a b)
 | .ag l,.ag l'=>eqVL l l'
 | .f k a b,.f k' a' b'=>and (Nat.beq k k') (and (eqVL a a') (eqVL b b'))
 | _,_=>false
def eqVL :List AV→List AV→Bool
 | [],[]=>true
 | a::l,b::m=>and (eqV a b) (eqVL l m)
 | _,_=>false
end
abbrev PW :=List (Nat × Nat × Nat × Nat × AV)
def nthN :List Nat→Nat→Nat
 | [],_=>0
 | m::l,k=>bif Nat.beq k 0 then m else nthN l (Nat.pred k)
def ancE (ms:List Nat):List Edge→Nat
 | []=>0
 | e::es=>bif Region.binds .any e then Nat.lor (Nat.lor (Nat.pow 2 e.on) (nthN ms e.on)) (ancE ms es) else ancE ms es
def ancGo :List Oper→List Nat→List Nat
 | [],ms=>ms
 | o::l,ms=>ancGo l (ms++[ancE ms o.after.toList])
def ancL (ops:Array Oper):List Nat:=ancGo ops.toList []
def aheadM (ops:Array Oper) (l i:Nat):Bool:=tb (nthN (ancL ops) i) l
theorem nthN_eq :∀ (l:List Nat) (k:Nat),nthN l k=(l[k]?).getD 0
 | [],k=>by simp [nthN]
 | m::l,0=>rfl
 | m::l,k+1=>by
  rw [nthN]
  show (bif Nat.beq (k+1) 0 then m else nthN l k)=_
  rw [nthN_eq l k]; rfl
theorem bf_up {ops:Array Oper} {k:Nat}:∀ {f g j:Nat},f≤g→bf ops f k j=true→bf ops g k j=true
 | 0,_,_,_,h=>by cases h
 | f+1,0,_,hg,h=>absurd hg (Nat.not_succ_le_zero f)
 | f+1,g+1,j,hg,h=>by
  unfold bf at h ⊢
  split at h
  ·cases h
  ·rename_i o ho
   rw [Array.any_eq_true'] at h ⊢
   obtain ⟨e,he,h2⟩:=h
   refine ⟨e,he,?_⟩
   simp only [Bool.and_eq_true,Bool.or_eq_true] at h2 ⊢
   exact ⟨h2.1,h2.2.imp id (bf_up (by omega))⟩
theorem ancE_ok {ops:Array Oper} {ms:List Nat} (hm:∀ k l,Nat.testBit (nthN ms k) l=true→k<ms.length∧bf ops (k+1) l k=true) {l:Nat}:∀ {es:List Edge},Nat.testBit (ancE ms es) l=true→∃ e∈es,Region.binds .any e=true∧(e.on=l∨(e.on<ms.length∧bf ops (e.on+1) l e.on=true))
 | [],h=>by rw [ancE,Nat.zero_testBit] at h; cases h
 | e::es,h=>by
  rw [ancE,cond_eq_ite] at h
  split at h
  ·rename_i hb
   rw [show Nat.testBit (Nat.lor (Nat.lor (Nat.pow 2 e.on) (nthN ms e.on)) (ancE ms es)) l=(Nat.testBit (Nat.lor (Nat.pow 2 e.on) (nthN ms e.on)) l||Nat.testBit (ancE ms es) l) from Nat.testBit_or _ _ _,show Nat.testBit (Nat.lor (Nat.pow 2 e.on) (nthN ms e.on)) l=(Nat.testBit (2 ^ e.on) l||Nat.testBit (nthN ms e.on) l) from Nat.testBit_or _ _ _,Nat.testBit_two_pow] at h
   simp only [Bool.or_eq_true,decide_eq_true_eq] at h
   rcases h with (h|h)|h
   ·exact ⟨e,by simp,hb,.inl h⟩
   ·exact ⟨e,by simp,hb,.inr (hm _ _ h)⟩
   ·obtain ⟨e',h1,h2⟩:=ancE_ok hm h
    exact ⟨e',by simp [h1],h2⟩
  ·obtain ⟨e',h1,h2⟩:=ancE_ok hm h
   exact ⟨e',by simp [h1],h2⟩
theorem ancGo_ok {ops:Array Oper}:∀ {l:List Oper} {ms:List Nat},(∀ j o,l[j]?=some o→ops[ms.length+j]?=some o)→(∀ k m,Nat.testBit (nthN ms k) m=true→k<ms.length∧bf ops (k+1) m k=true)→∀ k m,Nat.testBit (nthN (ancGo l ms) k) m=true→bf ops (k+1) m k=true
 | [],ms,_,hm,k,m,h=>(hm k m h).2
 | o::l,ms,hl,hm,k,m,h=>by
  refine ancGo_ok (l:=l) (ms:=ms++[ancE ms o.after.toList]) (fun j o' hj=>?_) (fun k m h=>?_) k m h
  ·have:=hl (j+1) o' (by simpa using hj)
   rw [List.length_append,List.length_singleton,show ms.length+1+j=ms.length+(j+1) by omega]; exact this
  ·rw [nthN_eq] at h
   by_cases hk:k<ms.length
   ·rw [List.getElem?_append_left hk,← nthN_eq] at h
    obtain ⟨h1,h2⟩:=hm k m h
    exact ⟨by rw [List.length_append]; omega,h2⟩
   ·rw [List.getElem?_append_right (by omega)] at h
    by_cases hk2:k=ms.length
    ·subst hk2
     simp only [Nat.sub_self,List.getElem?_cons_zero,Option.getD_some] at h
     obtain ⟨e,he,hb,h2⟩:=ancE_ok hm h
     refine ⟨by simp,?_⟩
     have ho:=hl 0 o (by simp)
     rw [Nat.add_zero] at ho
     unfold bf
     rw [ho]
     simp only
     rw [Array.any_eq_true']
     refine ⟨e,by simpa using he,?_⟩
     simp only [hb,Bool.true_and,Bool.or_eq_true,beq_iff_eq]
     rcases h2 with h2|⟨h2,h3⟩
     ·exact .inl h2
     ·exact .inr (bf_up (by omega) h3)
    ·rw [List.getElem?_eq_none (by simp; omega)] at h
     simp at h
theorem aheadM_ok {ops:Array Oper} {l i:Nat} (h:aheadM ops l i=true):bf ops ops.size l i=true:=by
 unfold aheadM at h
 rw [tb_eq] at h
 have h2:=ancGo_ok (ops:=ops) (l:=ops.toList) (ms:=[]) (fun j o hj=>by simpa using hj) (fun k m h=>by rw [nthN,Nat.zero_testBit] at h; cases h) i l h
 by_cases hi:i<ops.size
 ·exact bf_up (by omega) h2
 ·exfalso
  unfold bf at h2
  rw [Array.getElem?_eq_none (by omega)] at h2; cases h2
def rechk (TT:Nat→Option TI) (ops:Array Oper) (i:Nat) (H:T AO):PW→Option PW
 | []=>some []
 | (l,t,id,off,v)::r=>match rechk TT ops i H r with
  | none=>none
  | some r'=>bif aheadM ops l i then some r' else match loadA TT H t id off with
   | none=>none
   | some v'=>bif eqV v' v then some ((l,t,id,off,v)::r') else none
section
variable (TT:Nat→Option TI) (FT:Nat→Option Func) (SM:T jJ)
def resA (E:En) (H:T AO):List ResultVar→Option (List AV)
 | []=>some []
 | .tmp t::r=>match E.get t with
  | none=>none
  | some v=>match resA E H r with
   | none=>none
   | some l=>some (v::l)
 | .cell b t::r=>match E.get b with
  | some (.p id off)=>match loadA TT H t id off with
   | none=>none
   | some v=>match resA E H r with
    | none=>none
    | some l=>some (v::l)
  | _=>none
def oneA :List AV→AV
 | [v]=>v
 | l=>.tu l
def uJ :List AV→En→Nat→En
 | [],E,_=>E
 | v::l,E,k=>uJ l (E.put v k) (Nat.succ k)
variable (rec:Tk→Rs)
def runL (n:Nat) (ops:Array Oper):List Oper→S→Rs
 | [],s=>.ok .normal s
 | o::rest,s=>bif uI n o.dst then (match wA ops s.E o.guard with
  | none=>.bad (why 1 o.dst)
  | some false=>runL n ops rest ⟨wH s.E o.dst wC,s.H,s.nx,s.D⟩
  | some true=>match yU TT s.E s.H s.nx o.op with
   | .val (v,H,nx)=>runL n ops rest ⟨wH s.E o.dst v,H,nx,s.D⟩
   | .call k vs=>(match rec (.fn k vs s.H s.nx) with
    | .val v H nx=>runL n ops rest ⟨wH s.E o.dst v,H,nx,s.D⟩
    | .bad w=>.bad w
    | .ok _ _=>.bad 40)
   | .dfr k cap vs=>runL n ops rest ⟨wH s.E o.dst wC,s.H,s.nx,(k,cap,vs)::s.D⟩
   | .bad=>.bad (why 2 o.dst)) else .bad 3
def delF (E:En):List (Nat × Nat × Nat)→En
 | []=>E
 | (_,d,_)::F=>(delF E F).del d
def argIs (c d:Nat):Bool:=bif Nat.beq (Nat.mod c 2) 1 then false else bif Nat.blt (Nat.div c 2) 1048576 then false else Nat.beq (Nat.div (Nat.div c 2) 1048576) (Nat.succ d)
def notIn (d:Option Nat):List (Nat × Nat × Nat)→Bool
 | []=>true
 | (_,e,c)::F=>match d with
  | none=>true
  | some d=>bif or (Nat.beq d e) (argIs c d) then false else notIn (some d) F
def notJ (j:Nat):List (Nat × Nat × Nat)→Bool
 | []=>true
 | (i,_,_)::F=>bif Nat.beq i j then false else notJ j F
def bldA (TT:Nat→Option TI) (E:En) (H:T AO) (nx c:Nat):Option Eff:=buildSA TT H E nx (Nat.mod (Nat.div c 2) 1048576) 1 #[(0,.tmp (Nat.pred (Nat.div (Nat.div c 2) 1048576)))]
def nowA (TT:Nat→Option TI) (E:En) (H:T AO) (nx c:Nat):Option Eff:=bif Nat.beq (Nat.mod c 2) 1 then some (.m nx,H.put (.mp [] 0) nx,Nat.succ nx) else bif Nat.blt (Nat.div c 2) 1048576 then allocA TT H nx (Nat.div c 2) else bldA TT E H nx c
def vV (n:Nat) (ops:Array Oper):List Item→List (Nat × Nat × Nat)→PW→S→Rs
 | [],_,_,s=>.ok .normal s
 | .q i::rest,F,W,s=>match ops[i]? with
  | none=>.bad 4
  | some o=>bif and (uI n o.dst) (notIn o.dst F) then (match wA ops s.E o.guard with
   | none=>.bad (why 5 o.dst)
   | some false=>vV n ops rest F W ⟨wH s.E o.dst wC,s.H,s.nx,s.D⟩
   | some true=>match o.op with
    | .load t x=>(match loadO TT s.E s.H t x with
     | some (v,id,off)=>vV n ops rest F ((i,t,id,off,v)::W) ⟨wH s.E o.dst v,s.H,s.nx,s.D⟩
     | none=>.bad (why 6 o.dst))
    | op=>match doP TT s.E op with
     | some v=>vV n ops rest F W ⟨wH s.E o.dst v,s.H,s.nx,s.D⟩
     | none=>.bad (why 7 o.dst)) else .bad 8
 | .e i::rest,F,W,s=>match ops[i]? with
  | none=>.bad 9
  | some o=>bif and (uI n o.dst) (notIn o.dst F) then (match wA ops s.E o.guard with
   | none=>.bad (why 10 o.dst)
   | some false=>vV n ops rest F W ⟨wH s.E o.dst wC,s.H,s.nx,s.D⟩
   | some true=>match yU TT s.E s.H s.nx o.op with
    | .val (v,H,nx)=>(match rechk TT ops i H W with
     | some W'=>vV n ops rest F W' ⟨wH s.E o.dst v,H,nx,s.D⟩
     | none=>.bad (why 11 o.dst))
    | .call k vs=>(match rec (.fn k vs s.H s.nx) with
     | .val v H nx=>(match rechk TT ops i H W with
      | some W'=>vV n ops rest F W' ⟨wH s.E o.dst v,H,nx,s.D⟩
      | none=>.bad (why 12 o.dst))
     | .bad w=>.bad w
     | .ok _ _=>.bad 41)
    | _=>.bad (why 13 o.dst)) else .bad 14
 | .now j::rest,F,W,s=>match F with
  | []=>.bad 15
  | (j',d,t)::F'=>bif Nat.beq j j' then (match nowA TT s.E s.H s.nx t with
   | none=>.bad 16
   | some (v,H,nx)=>vV n ops rest F' W ⟨s.E.put v d,H,nx,s.D⟩) else .bad 17
 | .fl j::rest,F,W,s=>match ops[j]? with
  | none=>.bad 71
  | some o=>match bldC o.op with
   | none=>.bad 72
   | some c=>match o.dst with
    | none=>.bad 73
    | some d=>bif and (and (Nat.blt d n) (and (notIn (some d) F) (o.guard.isNone))) (and (notJ j F) (not (argIs c d))) then (match bldA TT s.E s.H s.nx c with
     | none=>.bad (why 74 o.dst)
     | some _=>vV n ops rest (F++[(j,d,c)]) W ⟨s.E.del d,s.H,s.nx,s.D⟩) else .bad 75
def fltOf (ops:Array Oper) (n:Nat):List Nat→Option (List (Nat × Nat × Nat))
 | []=>some []
 | j::F=>match ops[j]? with
  | some o=>match fltC o.op,o.dst,o.guard with
   | some t,some d,none=>bif Nat.blt d n then (match fltOf ops n F with
    | some l=>bif and (notIn (some d) l) (notJ j l) then some ((j,d,t)::l) else none
    | none=>none) else none
   | _,_,_=>none
  | none=>none
def fltZ :List (Nat × Nat × Nat)→Bool
 | []=>true
 | (_,_,c)::F=>bif Nat.beq (Nat.mod c 2) 1 then fltZ F else match zerT TT (Nat.div c 2) with
  | none=>false
  | some _=>fltZ F
def runD :List (Nat × List AV × List AV)→T AO→Nat→Option (T AO × Nat)
 | [],H,nx=>some (H,nx)
 | (k,cap,vs)::D,H,nx=>match rec (.dfn k (vs++cap) H nx) with
  | .val _ H' nx'=>runD D H' nx'
  | _=>none
def loopR (n:Nat) (b:Code):Nat→S→Rs
 | 0,_=>.bad 35
 | f+1,s=>match rec (.code n b s) with
  | .ok .normal s'=>loopR n b f s'
  | r=>r
def uB :Tk→Rs
 | .code n c s=>match c with
  | .skip=>.ok .normal s
  | .region _ ops false=>runL TT rec n ops ops.toList s
  | .region _ ops true=>(match planOf TT ops with
   | none=>.bad 20
   | some (F,it)=>match fltOf ops n F with
    | none=>.bad 21
    | some fl=>bif fltZ TT fl then vV TT rec n ops it fl [] ⟨delF s.E fl,s.H,s.nx,s.D⟩ else .bad 34)
  | .seq a b=>(match rec (.code n a s) with
   | .ok .normal s'=>rec (.code n b s')
   | r=>r)
  | .cond x a b=>(match yV s.E x with
   | some (.b true)=>rec (.code n a s)
   | some (.b false)=>rec (.code n b s)
   | _=>.bad 22)
  | .block id b=>(match rec (.code n b s) with
   | .ok (.exit k) s'=>bif Nat.beq k id then .ok .normal s' else .ok (.exit k) s'
   | r=>r)
  | .loop b=>loopR rec n b 1099511627776 s
  | .exit k=>.ok (.exit k) s
  | .ret=>.ok .ret s
  | .label _=>.ok .normal s
  | _=>.bad 23
 | .fn k vs H nx=>(match SM.get k with
  | some F=>(match F vs H nx with
   | some (v,H',nx')=>.val v H' nx'
   | none=>.bad (100+k))
  | none=>match FT k with
   | none=>.bad (100000+k)
   | some fn=>match fn.body with
    | none=>.bad 24
    | some c=>bif Nat.ble vs.length fn.ntmps then (match rec (.code fn.ntmps c ⟨uJ vs .e 0,H,nx,[]⟩) with
     | .ok (.exit _) _=>.bad 25
     | .ok _ s=>(match runD rec s.D s.H s.nx with
      | none=>.bad 26
      | some (H',nx')=>match resA TT s.E H' fn.results.toList with
       | none=>.bad 27
       | some l=>.val (oneA l) H' nx')
     | .bad w=>.bad (whyF k w)
     | .val _ _ _=>.bad 42) else .bad 28)
 | .dfn k vs H nx=>match FT k with
   | none=>.bad (100000+k)
   | some fn=>match fn.body with
    | none=>.bad 29
    | some c=>bif Nat.ble vs.length fn.ntmps then (match rec (.code fn.ntmps c ⟨uJ vs .e 0,H,nx,[]⟩) with
     | .ok (.exit _) _=>.bad 30
     | .ok _ s=>(match s.D with
      | []=>(match resA TT s.E s.H fn.results.toList with
       | none=>.bad 31
       | some l=>.val (oneA l) s.H s.nx)
      | _=>.bad 32)
     | .bad w=>.bad (whyF k w)
     | .val _ _ _=>.bad 43) else .bad 33
end
def exec (TT:Nat→Option TI) (FT:Nat→Option Func) (SM:T jJ):Nat→Tk→Rs
 | 0,_=>.bad 0
 | f+1,t=>uB TT FT SM (exec TT FT SM f) t
end
end Ab
namespace Ab
noncomputable section
def RDs (B:List Deferred) (V:Val):List (Nat × List AV × List AV)→List Deferred→Prop
 | [],ds=>ds=B
 | (k,cap,vs)::D,ds=>∃ (cs us:List Value) (ds':List Deferred),ds=⟨.fn (.func k) cs.toArray,us.toArray⟩::ds'∧RL V cap cs∧RL V vs us∧RDs B V D ds'
theorem RDs.mono {B:List Deferred} {V V':Val} (h:V≤V'):∀ {D:List (Nat × List AV × List AV)} {ds:List Deferred},RDs B V D ds→RDs B V' D ds
 | [],_,hr=>hr
 | (k,cap,vs)::D,_,hr=>by
  obtain ⟨cs,us,ds',h1,h2,h3,h4⟩:=hr
  exact ⟨cs,us,ds',h1,h2.mono h _,h3.mono h _,RDs.mono h h4⟩
structure RS (P:Program) (V:Val) (s:S) (g:Env) (h:Hp):Prop where
 env:RE V s.E g
 heap:RH P V s.H s.nx h
def toX :Ex→Exit
 | .normal=>.normal
 | .exit k=>.exit k
 | .ret=>.ret
def PQ (B:List Deferred) (P:Program) (V:Val) (fr:Hp) (e:Ex) (s:S):vA:=fun ds ex g L=>ex=toX e∧∃ V' h',V≤V'∧L=h'+fr∧RS P V' s g h'∧RDs B V' s.D ds
theorem PQ.np {B:List Deferred} {P:Program} {V:Val} {fr:Hp} {e:Ex} {s:S}:NPX (PQ B P V fr e s):=fun ds c g L h=>by cases e<;>cases h.1
structure Snd (P:Program) (rec:Tk→Rs):Prop where
 code:∀ {n c s e s'},rec (.code n c s)=.ok e s'→∀ {w0 V0 V g h fr ds B},V0≤V→RS P V s g h→RDs B V s.D ds→vD P n w0 c (PQ B P V0 fr e s') ds g (h+fr)
 fn:∀ {k vs H nx v H' nx'},rec (.fn k vs H nx)=.val v H' nx'→Nonempty (Fun P k)∧∀ {w0 V us h},RL V vs us→RH P V H nx h→Spec P w0 k us h fun u h'=>∃ V',V≤V'∧R V' v u∧RH P V' H' nx' h'
 dfn:∀ {k vs H nx v H' nx'},rec (.dfn k vs H nx)=.val v H' nx'→Nonempty (Fun P k)∧∀ {w0 V us h},RL V vs us→RH P V H nx h→SpecD P w0 k us h fun u h'=>∃ V',V≤V'∧R V' v u∧RH P V' H' nx' h'
section
variable {P:Program} {TT:Nat→Option TI} {V:Val} {g:Env} {w0:World} {h fr:Hp}
theorem pv_eok {E:En} {H:T AO} {nx:Nat} {op:Op} {a:AV} {v:Value} (hp:PV P g op v) (hr:R V a v) (hH:RH P V H nx h):EOk P w0 V h fr g op (a,H,nx) :=
 fun o ac w n ho ha hst=>⟨v,w,_,.inl (hp o ac w n ho ha),⟨V,h,Val.refl V,rfl,hr,hH⟩,hst⟩
theorem loadO_ok (hT:TOk P TT) {E:En} (hE:RE V E g) {H:T AO} {nx:Nat} (hH:RH P V H nx h) {t:TypeId} {x:Operand} {v:AV} {id off:Nat} (hl:loadO TT E H t x=some (v,id,off)) :
  ∃ b C u,V id=some (b,C)∧LV g (.load t x) t ⟨b,off,none⟩∧(∀ fr,uA P w0 (h+fr) t ⟨b,off,none⟩ u)∧R V v u∧loadA TT H t id off=some v:=by
 unfold loadO at hl
 split at hl
 ·rename_i id' off' hx
  split at hl
  ·rename_i v' hv
   simp only [Option.some.injEq,Prod.mk.injEq] at hl
   obtain ⟨rfl,rfl,rfl⟩:=hl
   obtain ⟨u',h1,h2⟩:=yI hE hx
   obtain ⟨b,c,h3,rfl⟩:=R.mkNil h2
   obtain ⟨b',C,u,hV,hL,hR⟩:=loadA_ok (P:=P) (w0:=w0) (fr:=0) hT hH hv
   rw [h3] at hV
   simp only [Option.some.injEq,Prod.mk.injEq] at hV
   obtain ⟨rfl,rfl⟩:=hV
   refine ⟨b,c,u,h3,yA h1,fun fr=>?_,hR,hv⟩
   intro w hst
   refine hL w ?_
   rw [zW]; exact hst.left
  ·cases hl
 ·cases hl
theorem lv_eok {H:T AO} {nx:Nat} {op:Op} {t:TypeId} {ad:Addr} {a:AV} {v:Value} (hp:LV g op t ad) (hl:uA P w0 (h+fr) t ad v) (hr:R V a v) (hH:RH P V H nx h):EOk P w0 V h fr g op (a,H,nx) :=
 fun o ac w n ho ha hst=>⟨v,w,_,.inl (by rw [hp o ac n ho ha]; simp only [Sem.run_bind,hl w hst,Result.andThen_ok,Sem.run_pure]),⟨V,h,Val.refl V,rfl,hr,hH⟩,hst⟩
theorem cutH_ok (hT:TOk P TT) {E:En} (hE:RE V E g) {H:T AO} {nx:Nat} (hH:RH P V H nx h) {t:TypeId} {x:Operand} {lo hi mx:Option Operand} {r:Eff} (hr:cutH TT E H nx t x lo hi mx=some r):EOk P w0 V h fr g (.slice t x lo hi mx) r:=by
 unfold cutH at hr
 split at hr
 ·cases hr
 ·split at hr
  ·rename_i id off len cap hx
   split at hr
   ·cases hr
   ·rename_i l hl
    split at hr
    ·cases hr
    ·rename_i y
     split at hr
     ·cases hr
     ·rename_i k hk
      split at hr
      ·rename_i e hu
       split at hr
       ·cases hr
       ·rename_i sz hs
        split at hr
        ·rename_i e' n s hid
         rw [cond_eq_ite] at hr
         split at hr
         ·rename_i hc
          simp only [Bool.and_eq_true,Nat.beq_eq,kU,decide_eq_true_eq] at hc
          obtain ⟨⟨rfl,h1⟩,h2,h3⟩:=hc
          have h3:(cap+k)*sz≤n:=Nat.le_of_ble_eq_true h3
          simp only [Option.some.injEq] at hr; subst hr
          obtain ⟨v,hv1,hv2⟩:=yI hE hx
          have hu:=yP hT hu
          obtain ⟨by0,z0,hI,hz0⟩:=uP hT hs
          have hcell:P.cellsOf e=sz:=by obtain ⟨i,i1,i2,_⟩:=hI.out; simp [Program.cellsOf,i1,i2]
          unfold R at hv2
          obtain ⟨b0,C,hV,hle,rfl⟩:=hv2
          obtain ⟨b',C',ob,Rr,hV',hh,hO⟩:=hH.has id _ hid
          rw [hV] at hV'
          simp only [Option.some.injEq,Prod.mk.injEq] at hV'
          obtain ⟨rfl,rfl⟩:=hV'
          obtain ⟨c,rfl,hO⟩:=ro_cells hO
          obtain ⟨hnc,hcc,hwf⟩:=readN_all hO
          have hcc:=hcc O
          rw [hcell] at hcc
          have h4:(cap+k)*sz≤C*sz:=by omega
          have h5:cap+k≤C:=Nat.le_of_mul_le_mul_right h4 h2
          have hlo:(lo=none∧l=0)∨∃ y k,lo=some y∧ev g y=some (.int k (l:Int)):=bndA_ok hE hl
          have hhi:∃ y' k',some y=some y'∧ev g y'=some (.int k' (k:Int)):=by
           rcases bndA_ok hE hk with ⟨h,_⟩|h
           ·cases h
           ·exact h
          simp only [cond_false] at hv1
          have hp:=pv_cut (P:=P) (g:=g) hu hI hv1 (lo:=lo) (hi':=some y) (mx:=none) (l:=l) (h:=k) (m:=C - cap) hlo (.inr hhi) (.inl ⟨rfl,rfl⟩) (by omega) (by omega) (Nat.le_refl _)
          refine pv_eok (E:=E) hp ?_ hH
          unfold R
          refine ⟨b0,C,hV,?_,?_⟩
          ·simp only [cond_false]; show k - l≤C - (cap+l); omega
          ·rw [if_neg (by omega)]
           simp only [cond_false,Option.map_some]
           have ea:(⟨b0,off,none⟩:Addr).add (l*sz)=⟨b0,off+l*sz,none⟩:=by simp [Addr.add]
           rw [ea,Nat.sub_sub]
           rfl
         ·cases hr
        ·cases hr
      ·cases hr
  ·cases hr
theorem doE_ok (hT:TOk P TT) {E:En} (hE:RE V E g) {H:T AO} {nx:Nat} (hH:RH P V H nx h) {op:Op} {r:Eff} (hr:doE TT E H nx op=some r):EOk P w0 V h fr g op r:=by
 cases op with
 | alloc t=>exact alloc_ok hT hH hr
 | box t x=>exact box_ok hE hH hr
 | buildSlice t len parts=>exact buildS_ok hT hE hH hr
 | store t x y=>exact store_ok hT hE hH hr
 | makeSlice t x y=>exact makeS_ok hT hE hH hr
 | call c =>
  obtain ⟨callee,args,ts⟩:=c
  have ea:args=args.toList.toArray:=by simp
  have et:ts=ts.toList.toArray:=by simp
  simp only [doE] at hr
  split at hr
  ·unfold appO at hr
   split at hr
   ·rename_i x y hx
    split at hr
    ·rename_i t tx ht
     split at hr
     ·cases hr
     ·rename_i a ha
      split at hr
      ·cases hr
      ·rename_i b hb
       split at hr
       ·rename_i e hu
        split at hr
        ·cases hr
        ·rename_i sz hsz
         split at hr
         ·cases hr
         ·rename_i by' hby
          rw [cond_eq_ite] at hr
          split at hr
          ·rename_i hc
           simp only [Bool.and_eq_true,kU,decide_eq_true_eq] at hc
           split at hr
           ·cases hr
           ·rename_i m l hs
            rw [ea,et,hx,ht]
            exact append_ok hT hE hH ha hb hu hsz hc.1 (fun by'' h'=>by rw [hby] at h'; simp only [Option.some.injEq] at h'; subst h'; exact hc.2) hs hr
          ·cases hr
       ·cases hr
    ·cases hr
   ·cases hr
  ·unfold cpO at hr
   split at hr
   ·rename_i x y hx
    split at hr
    ·rename_i t tx ht
     split at hr
     ·cases hr
     ·rename_i a ha
      split at hr
      ·cases hr
      ·rename_i b hb
       split at hr
       ·rename_i e hu
        split at hr
        ·cases hr
        ·rename_i sz hsz
         rw [ea,et,hx,ht]
         exact copy_ok hT hE hH ha hb hu hsz hr
       ·cases hr
    ·cases hr
   ·cases hr
  ·unfold dlO at hr
   split at hr
   ·rename_i x y hx
    split at hr
    ·rename_i t tx ht
     split at hr
     ·cases hr
     ·rename_i a ha
      split at hr
      ·cases hr
      ·rename_i b hb
       rw [ea,et,hx,ht]
       exact del_ok hT hE hH ha hb hr
    ·cases hr
   ·cases hr
  ·unfold clO at hr
   split at hr
   ·rename_i x hx
    split at hr
    ·rename_i t ht
     split at hr
     ·cases hr
     ·rename_i a ha
      rw [ea,et,hx,ht]
      exact clr_ok hT hE hH ha hr
    ·cases hr
   ·cases hr
  ·unfold lnO at hr
   split at hr
   ·rename_i x hx
    split at hr
    ·rename_i t ht
     split at hr
     ·cases hr
     ·rename_i a ha
      rw [ea,et,hx,ht]
      exact lenM_ok hT hE hH ha hr
    ·cases hr
   ·cases hr
  ·cases hr
 | makeMap t r=>exact makeM_ok hH hr
 | lookup t x i ok=>exact lookAny_ok hT hE hH hr
 | mapUpdate t m k v=>exact mapUAny_ok hT hE hH hr
 | range t x=>exact range_ok hT hE hH hr
 | next it b=>exact next_ok hE hH hr
 | slice t x lo hi mx=>exact cutH_ok hT hE hH hr
 | _=>simp [doE] at hr
theorem stepO_val (hT:TOk P TT) {E:En} (hE:RE V E g) {H:T AO} {nx:Nat} (hH:RH P V H nx h) {op:Op} {r:Eff} (hr:yU TT E H nx op=.val r):EOk P w0 V h fr g op r:=by
 have hP:∀ {op:Op},ofP H nx (doP TT E op)=.val r→EOk P w0 V h fr g op r:=fun {op} hr=>by
  unfold ofP at hr
  split at hr
  ·rename_i v hv
   simp only [Out.val.injEq] at hr; subst hr
   obtain ⟨q,h1,h2⟩:=doP_ok hT hE hv
   exact pv_eok (E:=E) h1 h2 hH
  ·cases hr
 have hEf:∀ {op:Op},ofE (doE TT E H nx op)=.val r→EOk P w0 V h fr g op r:=fun {op} hr=>by
  unfold ofE at hr
  split at hr
  ·rename_i v hv
   simp only [Out.val.injEq] at hr; subst hr
   exact doE_ok hT hE hH hv
  ·cases hr
 have hPE:∀ {op:Op},(match doP TT E op with|some v=>Out.val (v,H,nx)|none=>ofE (doE TT E H nx op))=.val r→EOk P w0 V h fr g op r:=fun {op} hr=>by
  split at hr
  ·rename_i v hv
   simp only [Out.val.injEq] at hr; subst hr
   obtain ⟨q,h1,h2⟩:=doP_ok hT hE hv
   exact pv_eok (E:=E) h1 h2 hH
  ·exact hEf hr
 cases op with
 | load t x =>
  simp only [yU] at hr
  split at hr
  ·rename_i v id off hv
   simp only [Out.val.injEq] at hr; subst hr
   obtain ⟨b,C,u,h1,h2,h3,h4,_⟩:=loadO_ok (w0:=w0) hT hE hH hv
   exact lv_eok h2 (h3 fr) h4 hH
  ·cases hr
 | alloc t=>exact hEf hr
 | box t x=>exact hEf hr
 | buildSlice t len parts=>exact hEf hr
 | store t x y=>exact hEf hr
 | makeSlice t x y=>exact hEf hr
 | makeMap t x=>exact hEf hr
 | lookup t x i ok=>exact hEf hr
 | mapUpdate t m k v=>exact hEf hr
 | range t x=>exact hEf hr
 | next t x=>exact hEf hr
 | convert a b x=>exact hPE hr
 | binOp o t x y ty=>exact hPE hr
 | slice t x lo hi mx=>exact hPE hr
 | defer c =>
  simp only [yU] at hr
  split at hr
  ·split at hr
   ·split at hr<;>cases hr
   ·cases hr
  ·cases hr
 | call c =>
  simp only [yU] at hr
  split at hr
  ·split at hr
   ·split at hr<;>cases hr
   ·cases hr
  ·exact hEf hr
  ·exact hEf hr
  ·exact hEf hr
  ·exact hEf hr
  ·exact hPE hr
  ·exact hP hr
  ·cases hr
 | _=>exact hP hr
theorem stepO_call {E:En} (hE:RE V E g) {H:T AO} {nx:Nat} {op:Op} {k:Nat} {vs:List AV} (hr:yU TT E H nx op=.call k vs):∃ us,RL V vs us∧(Nonempty (Fun P k)→CV P g op k us):=by
 have hP:∀ {op:Op},ofP H nx (doP TT E op)≠.call k vs:=fun {op} h=>by unfold ofP at h; split at h<;>cases h
 have hEf:∀ {op:Op},ofE (doE TT E H nx op)≠.call k vs:=fun {op} h=>by unfold ofE at h; split at h<;>cases h
 cases op with
 | call c =>
  obtain ⟨callee,args,ts⟩:=c
  simp only [yU] at hr
  split at hr
  ·rename_i f
   split at hr
   ·rename_i k' first cap hf
    split at hr
    ·rename_i asx ha
     simp only [Out.call.injEq] at hr
     obtain ⟨rfl,rfl⟩:=hr
     obtain ⟨u,h1,h2⟩:=yI hE hf
     obtain ⟨us,h3,h4⟩:=opndL_ok hE ha
     unfold R at h2
     obtain ⟨fs,cs,h5,h6,rfl⟩:=h2
     refine ⟨fs++(us++cs),h5.append (h4.append h6),fun ⟨hfun⟩=>?_⟩
     have ea:args=args.toList.toArray:=by simp
     rw [ea]
     exact zO h1 h3 (by simp)
    ·cases hr
   ·cases hr
  ·exact absurd hr hEf
  ·exact absurd hr hEf
  ·exact absurd hr hEf
  ·exact absurd hr hEf
  ·split at hr
   ·cases hr
   ·exact absurd hr hEf
  ·exact absurd hr hP
  ·cases hr
 | load t x=>simp only [yU] at hr; split at hr<;>cases hr
 | defer c =>
  simp only [yU] at hr
  split at hr
  ·split at hr
   ·split at hr<;>cases hr
   ·cases hr
  ·cases hr
 | convert a b x=>simp only [yU] at hr; split at hr; cases hr; exact absurd hr hEf
 | binOp o t x y ty=>simp only [yU] at hr; split at hr; cases hr; exact absurd hr hEf
 | slice t x lo hi mx=>simp only [yU] at hr; split at hr; cases hr; exact absurd hr hEf
 | alloc t=>exact absurd hr hEf
 | box t x=>exact absurd hr hEf
 | buildSlice t len parts=>exact absurd hr hEf
 | store t x y=>exact absurd hr hEf
 | makeSlice t x y=>exact absurd hr hEf
 | makeMap t x=>exact absurd hr (hEf (op:=.makeMap t x))
 | lookup t x i ok=>exact absurd hr (hEf (op:=.lookup t x i ok))
 | mapUpdate t m k v=>exact absurd hr (hEf (op:=.mapUpdate t m k v))
 | range t x=>exact absurd hr (hEf (op:=.range t x))
 | next t x=>exact absurd hr (hEf (op:=.next t x))
 | _=>simp only [yU] at hr; exact absurd hr hP
theorem stepO_dfr {E:En} (hE:RE V E g) {H:T AO} {nx:Nat} {op:Op} {k:Nat} {cap vs:List AV} (hr:yU TT E H nx op=.dfr k cap vs) :
  ∃ f xs ts cs us,op=.defer { callee:=.value f,args:=xs,argTypes:=ts }∧ev g f=some (.func (.func k) #[] cs.toArray)∧evs g xs.toList=some us∧RL V cap cs∧RL V vs us:=by
 have hP:∀ {op:Op},ofP H nx (doP TT E op)≠.dfr k cap vs:=fun {op} h=>by unfold ofP at h; split at h<;>cases h
 have hEf:∀ {op:Op},ofE (doE TT E H nx op)≠.dfr k cap vs:=fun {op} h=>by unfold ofE at h; split at h<;>cases h
 cases op with
 | defer c =>
  obtain ⟨callee,args,ts⟩:=c
  simp only [yU] at hr
  split at hr
  ·rename_i f
   split at hr
   ·rename_i k' cap' hf
    split at hr
    ·rename_i asx ha
     simp only [Out.dfr.injEq] at hr
     obtain ⟨rfl,rfl,rfl⟩:=hr
     obtain ⟨u,h1,h2⟩:=yI hE hf
     obtain ⟨us,h3,h4⟩:=opndL_ok hE ha
     unfold R at h2
     obtain ⟨fs,cs,h5,h6,rfl⟩:=h2
     rw [RL.nil.1 h5] at h1
     exact ⟨f,args,ts,cs,us,rfl,h1,h3,h6,h4⟩
    ·cases hr
   ·cases hr
  ·cases hr
 | call c =>
  simp only [yU] at hr
  split at hr
  ·split at hr
   ·split at hr<;>cases hr
   ·cases hr
  ·exact absurd hr hEf
  ·exact absurd hr hEf
  ·exact absurd hr hEf
  ·exact absurd hr hEf
  ·split at hr
   ·cases hr
   ·exact absurd hr hEf
  ·exact absurd hr hP
  ·cases hr
 | load t x=>simp only [yU] at hr; split at hr<;>cases hr
 | convert a b x=>simp only [yU] at hr; split at hr; cases hr; exact absurd hr hEf
 | binOp o t x y ty=>simp only [yU] at hr; split at hr; cases hr; exact absurd hr hEf
 | slice t x lo hi mx=>simp only [yU] at hr; split at hr; cases hr; exact absurd hr hEf
 | alloc t=>exact absurd hr hEf
 | box t x=>exact absurd hr hEf
 | buildSlice t len parts=>exact absurd hr hEf
 | store t x y=>exact absurd hr hEf
 | makeSlice t x y=>exact absurd hr hEf
 | makeMap t x=>exact absurd hr (hEf (op:=.makeMap t x))
 | lookup t x i ok=>exact absurd hr (hEf (op:=.lookup t x i ok))
 | mapUpdate t m k v=>exact absurd hr (hEf (op:=.mapUpdate t m k v))
 | range t x=>exact absurd hr (hEf (op:=.range t x))
 | next t x=>exact absurd hr (hEf (op:=.next t x))
 | _=>simp only [yU] at hr; exact absurd hr hP
theorem uL {ops:Array Oper} {E:En} (hE:RE V E g) {gd:Option (Nat × Bool)} {b:Bool} (h:wA ops E gd=some b):yY ops g gd=some b:=by
 unfold wA at h
 split at h
 ·exact h
 ·rename_i j w
  unfold yY yieldedE
  split at h
  ·rename_i e; simp only [e]
   simp only [Option.some.injEq] at h; subst h
   rfl
  ·rename_i d hd
   simp only [hd]
   split at h
   ·rename_i x hx
    obtain ⟨u,h1,h2⟩:=hE d _ hx
    unfold R at h2; subst h2
    simp only [h1,Option.map_some]
    simp only [Option.some.injEq] at h; subst h
    cases x<;>cases w<;>rfl
   ·rename_i l hx
    obtain ⟨u,h1,h2⟩:=hE d _ hx
    unfold R at h2
    obtain ⟨vs,_,rfl⟩:=h2
    simp only [h1,Option.map_some]
    simp only [Option.some.injEq] at h; subst h
    rfl
   ·cases h
theorem dst_ok {n:Nat} {d:Option Nat} (h:uI n d=true):d.all (·<n)=true:=by
 cases d with
 | none=>rfl
 | some d=>simpa [uI,kU] using h
variable {rec:Tk→Rs} {n:Nat} {ops:Array Oper} {B:List Deferred}
theorem runL_ok (hT:TOk P TT) (hS:Snd P rec) {V0:Val} {e:Ex} {s':S}:∀ (rest:List Oper) (s:S) (V:Val) (g:Env) (h:Hp) (ds:List Deferred),runL TT rec n ops rest s=.ok e s'→V0≤V→RS P V s g h→RDs B V s.D ds →
  HoldXL P n w0 ops rest (PQ B P V0 fr e s') ds g (h+fr)
 | [],s,V,g,h,ds,hr,hV,hs,hd=>by
  simp only [runL,Rs.ok.injEq] at hr
  obtain ⟨rfl,rfl⟩:=hr
  exact X_nil ⟨rfl,V,h,hV,rfl,hs,hd⟩
 | o::rest,s,V,g,h,ds,hr,hV,hs,hd=>by
  simp only [runL,cond_eq_ite] at hr
  split at hr
  ·rename_i hdst
   have hdst:=dst_ok hdst
   split at hr
   ·cases hr
   ·rename_i hw
    have hw:=uL hs.env hw
    exact X_skipOp hw hdst (runL_ok hT hS rest _ V _ h ds hr hV ⟨hs.env.put R.und o.dst,hs.heap⟩ hd)
   ·rename_i hw
    have hw:=uL hs.env hw
    split at hr
    ·rename_i v H nx hst
     refine X_eff O hw hdst (stepO_val (w0:=w0) (fr:=fr) hT hs.env hs.heap hst) ?_
     rintro u L' ⟨V',h',hle,rfl,hR,hH⟩
     exact runL_ok hT hS rest _ V' _ h' ds hr (Val.trans hV hle) ⟨(hs.env.mono hle).put hR o.dst,hH⟩ (hd.mono hle)
    ·rename_i k vs hst
     obtain ⟨us,h1,h2⟩:=stepO_call (P:=P) (g:=g) hs.env hst
     split at hr
     ·rename_i v H nx hcall
      obtain ⟨h3,h4⟩:=hS.fn hcall
      refine X_call O hw hdst (h2 h3) (h4 (w0:=w0) h1 hs.heap) O ?_
      rintro u h' ⟨V',hle,hR,hH⟩
      exact runL_ok hT hS rest _ V' _ h' ds hr (Val.trans hV hle) ⟨(hs.env.mono hle).put hR o.dst,hH⟩ (hd.mono hle)
     ·cases hr
     ·cases hr
    ·rename_i k cap vs hst
     obtain ⟨f,xs,ts,cs,us,h1,h2,h3,h4,h5⟩:=stepO_dfr (g:=g) hs.env hst
     exact X_defer h1 hw hdst h2 h3 (runL_ok hT hS rest _ V _ h _ hr hV ⟨hs.env.put R.und o.dst,hs.heap⟩ ⟨cs,us,ds,rfl,h4,h5,hd⟩)
    ·cases hr
  ·cases hr
end
end
end Ab
namespace Ab
noncomputable section
mutual
theorem eqV_ok {V:Val}:∀ (a b:AV) {u v:Value},eqV a b=true→R V a u→R V b v→u=v
 | .b x,b,u,v,he,ha,hb=>by cases b<;>simp only [eqV,Bool.false_eq_true] at he; unfold R at ha hb; rw [ha,hb]; simpa using he
 | .i k m,b,u,v,he,ha,hb=>by
  cases b<;>simp only [eqV,Bool.false_eq_true] at he
  simp only [Bool.and_eq_true,decide_eq_true_eq,Nat.beq_eq] at he
  obtain ⟨rfl,rfl⟩:=he
  unfold R at ha hb; rw [ha.2,hb.2]
 | .s l m,b,u,v,he,ha,hb=>by
  cases b<;>simp only [eqV,Bool.false_eq_true] at he
  simp only [Bool.and_eq_true,Nat.beq_eq] at he
  obtain ⟨rfl,rfl⟩:=he
  unfold R at ha hb; rw [ha.2,hb.2]
 | .p l m,b,u,v,he,ha,hb=>by
  cases b<;>simp only [eqV,Bool.false_eq_true] at he
  simp only [Bool.and_eq_true,Nat.beq_eq] at he
  obtain ⟨rfl,rfl⟩:=he
  unfold R at ha hb
  obtain ⟨b1,c1,h1,rfl⟩:=ha
  obtain ⟨b2,c2,h2,rfl⟩:=hb
  rw [h1] at h2; simp only [Option.some.injEq,Prod.mk.injEq] at h2; rw [h2.1]
 | .np,b,u,v,he,ha,hb=>by cases b<;>simp only [eqV,Bool.false_eq_true] at he; unfold R at ha hb; rw [ha,hb]
 | .sl a1 a2 a3 a4 a5,b,u,v,he,ha,hb=>by
  cases b<;>simp only [eqV,Bool.false_eq_true] at he
  simp only [Bool.and_eq_true,Nat.beq_eq,beq_iff_eq] at he
  obtain ⟨⟨rfl,rfl⟩,⟨rfl,rfl⟩,rfl⟩:=he
  unfold R at ha hb
  obtain ⟨b1,c1,h1,_,rfl⟩:=ha
  obtain ⟨b2,c2,h2,_,rfl⟩:=hb
  rw [h1] at h2; simp only [Option.some.injEq,Prod.mk.injEq] at h2; rw [h2.1,h2.2]
 | .es,b,u,v,he,ha,hb=>by cases b<;>simp only [eqV,Bool.false_eq_true] at he
 | .ns,b,u,v,he,ha,hb=>by cases b<;>simp only [eqV,Bool.false_eq_true] at he; unfold R at ha hb; rw [ha,hb]
 | .f k fs cs,b,u,v,he,ha,hb=>by
  cases b<;>simp only [eqV,Bool.false_eq_true] at he
  simp only [Bool.and_eq_true,Nat.beq_eq] at he
  obtain ⟨rfl,h1,h2⟩:=he
  unfold R at ha hb
  obtain ⟨v1,c1,g1,g2,rfl⟩:=ha
  obtain ⟨v2,c2,g3,g4,rfl⟩:=hb
  rw [eqVL_ok fs _ h1 g1 g3,eqVL_ok cs _ h2 g2 g4]
 | .nf,b,u,v,he,ha,hb=>by cases b<;>simp only [eqV,Bool.false_eq_true] at he; unfold R at ha hb; rw [ha,hb]
 | .ag l,b,u,v,he,ha,hb=>by
  cases b<;>simp only [eqV,Bool.false_eq_true] at he
  unfold R at ha hb
  obtain ⟨v1,g1,_,rfl⟩:=ha
  obtain ⟨v2,g2,_,rfl⟩:=hb
  rw [eqVL_ok l _ he g1 g2]
 | .tu l,b,u,v,he,ha,hb=>by cases b<;>simp only [eqV,Bool.false_eq_true] at he
 | .m l,b,u,v,he,ha,hb=>by
  cases b<;>simp only [eqV,Bool.false_eq_true] at he
  simp only [Nat.beq_eq] at he
  subst he
  unfold R at ha hb
  obtain ⟨b1,c1,h1,rfl⟩:=ha
  obtain ⟨b2,c2,h2,rfl⟩:=hb
  rw [h1] at h2; simp only [Option.some.injEq,Prod.mk.injEq] at h2; rw [h2.1]
 | .nm,b,u,v,he,ha,hb=>by cases b<;>simp only [eqV,Bool.false_eq_true] at he; unfold R at ha hb; rw [ha,hb]
 | .y _,b,u,v,he,ha,hb=>by cases b<;>simp only [eqV,Bool.false_eq_true] at he
 | .ni,b,u,v,he,ha,hb=>by cases b<;>simp only [eqV,Bool.false_eq_true] at he; unfold R at ha hb; rw [ha,hb]
 | .it t a,b,u,v,he,ha,hb=>by
  cases b<;>simp only [eqV,Bool.false_eq_true] at he
  simp only [Bool.and_eq_true,Nat.beq_eq] at he
  obtain ⟨rfl,h1⟩:=he
  unfold R at ha hb
  obtain ⟨v1,g1,rfl⟩:=ha
  obtain ⟨v2,g2,rfl⟩:=hb
  rw [eqV_ok a _ h1 g1 g2]
 | .o,b,u,v,he,ha,hb=>by cases b<;>simp only [eqV,Bool.false_eq_true] at he
theorem eqVL_ok {V:Val}:∀ (l m:List AV) {us vs:List Value},eqVL l m=true→RL V l us→RL V m vs→us=vs
 | [],m,us,vs,he,ha,hb=>by cases m<;>simp only [eqVL,Bool.false_eq_true] at he; rw [RL.nil.1 ha,RL.nil.1 hb]
 | a::l,m,us,vs,he,ha,hb=>by
  cases m<;>simp only [eqVL,Bool.false_eq_true] at he
  simp only [Bool.and_eq_true] at he
  obtain ⟨u,us',rfl,h1,h2⟩:=RL.cons.1 ha
  obtain ⟨v,vs',rfl,h3,h4⟩:=RL.cons.1 hb
  rw [eqV_ok a _ he.1 h1 h3,eqVL_ok l _ he.2 h2 h4]
end
def RW (V:Val):PW→jO→Prop
 | [],W=>W=[]
 | (i,t,id,off,v)::r,W=>∃ b C u W',W=(i,t,⟨b,off,none⟩,u)::W'∧V id=some (b,C)∧R V v u∧RW V r W'
theorem RW.mono {V V':Val} (h:V≤V'):∀ {W:PW} {W':jO},RW V W W'→RW V' W W'
 | [],_,hr=>hr
 | (i,t,id,off,v)::r,_,hr=>by
  obtain ⟨b,C,u,W',h1,h2,h3,h4⟩:=hr
  exact ⟨b,C,u,W',h1,h _ _ h2,h3.mono h,RW.mono h h4⟩
theorem rechk_ok {P:Program} {TT:Nat→Option TI} (hT:TOk P TT) {w0:World} {V:Val} {H:T AO} {nx:Nat} {h fr:Hp} (hH:RH P V H nx h) {ops:Array Oper} {i:Nat}:∀ {W W':PW} {Wc:jO},rechk TT ops i H W=some W'→RW V W Wc →
  ∃ Wc',RW V W' Wc'∧(∀ p∈Wc,bf ops ops.size p.1 i=true∨p∈Wc')∧∀ p∈Wc',uA P w0 (h+fr) p.2.1 p.2.2.1 p.2.2.2
 | [],W',Wc,hr,hw=>by
  simp only [rechk,Option.some.injEq] at hr; subst hr
  have:Wc=[]:=hw
  subst this
  exact ⟨[],rfl,(fun p hp=>by cases hp),(fun p hp=>by cases hp)⟩
 | (l,t,id,off,v)::r,W',Wc,hr,hw=>by
  obtain ⟨b,C,u,Wr,rfl,hV,hR,hw'⟩:=hw
  simp only [rechk] at hr
  split at hr
  ·cases hr
  ·rename_i r' hr'
   obtain ⟨Wc',h1,h2,h3⟩:=rechk_ok hT hH hr' hw'
   rw [cond_eq_ite] at hr
   split at hr
   ·rename_i hb
    simp only [Option.some.injEq] at hr; subst hr
    refine ⟨Wc',h1,fun p hp=>?_,h3⟩
    rcases List.mem_cons.1 hp with rfl|hp
    ·exact .inl (aheadM_ok hb)
    ·exact h2 p hp
   ·split at hr
    ·cases hr
    ·rename_i v' hv'
     rw [cond_eq_ite] at hr
     split at hr
     ·rename_i he
      simp only [Option.some.injEq] at hr; subst hr
      obtain ⟨b',C',u',hV',hL,hR'⟩:=loadA_ok (P:=P) (w0:=w0) (fr:=fr) hT hH hv'
      rw [hV] at hV'
      simp only [Option.some.injEq,Prod.mk.injEq] at hV'
      obtain ⟨rfl,rfl⟩:=hV'
      have:=eqV_ok v' v he hR' hR
      subst this
      refine ⟨(l,t,⟨b,off,none⟩,u')::Wc',⟨b,C,u',Wc',rfl,hV,hR,h1⟩,fun p hp=>?_,fun p hp=>?_⟩
      ·rcases List.mem_cons.1 hp with rfl|hp
       ·exact .inr (by simp)
       ·exact (h2 p hp).imp (fun h=>h) fun h=>List.mem_cons_of_mem _ h
      ·rcases List.mem_cons.1 hp with rfl|hp
       ·exact hL
       ·exact h3 p hp
     ·cases hr
def FltV (P:Program) (f:Flt):Prop:=(f.t % 2=1∧f.ar=[]∧f.ob=.map #[] 0∧f.vl=fun b=>.map (some b)) ∨
 (f.t % 2≠1∧f.t / 2<1048576∧f.ar=[]∧(f.vl=fun b=>.pointer (some ⟨b,0,none⟩))∧∀ by' sz z,Inf P (f.t / 2) sz by' z→f.ob=.cells z.cells.toList.toArray (f.t / 2) (0,0)) ∨
 (f.t % 2≠1∧¬ f.t / 2<1048576∧∃ u e sz by' z os,f.ar=[((f.t / 2 / 1048576).pred,u)]∧P.underlying (f.t / 2 % 1048576)=some (.slice e)∧Inf P e sz by' z∧fillL (fun i=>some (i*sz,sz)) (List.replicate 1 z.cells.toList).flatten [(0,u)]=some os∧f.ob=.cells os.toArray e (0,0)∧f.vl=fun b=>.slice (some ⟨b,0,none⟩) 1 1)
def RF (P:Program) (ops:Array Oper) (n:Nat):List (Nat × Nat × Nat)→List Flt→Prop
 | [],F=>F=[]
 | (j,d,t)::l,F=>∃ f F',F=f::F'∧f.j=j∧f.d=d∧f.t=t∧FltOk P ops n f∧FltV P f∧(∀ f'∈F',f'.j≠j)∧(∀ f'∈F',f'.d≠d)∧RF P ops n l F'
section
variable {P:Program} {TT:Nat→Option TI} {w0:World} {fr:Hp} {rec:Tk→Rs} {n:Nat} {ops:Array Oper} {B:List Deferred}
theorem RF.all :∀ {l:List (Nat × Nat × Nat)} {F:List Flt},RF P ops n l F→∀ f∈F,FltOk P ops n f
 | [],F,h,f,hf=>by have:F=[]:=h; subst this; cases hf
 | (j,d,t)::l,F,h,f,hf=>by
  obtain ⟨f',F',rfl,_,_,_,h1,_,_,_,h2⟩:=h
  rcases List.mem_cons.1 hf with rfl|hf
  ·exact h1
  ·exact RF.all h2 f hf
theorem RF.inj :∀ {l:List (Nat × Nat × Nat)} {F:List Flt},RF P ops n l F→∀ f∈F,∀ f'∈F,(f.d=f'.d→f.j=f'.j)∧(f.j=f'.j→f=f')
 | [],F,h,f,hf,_,_=>by have:F=[]:=h; subst this; cases hf
 | (j,d,t)::l,F,h,f,hf,f',hf'=>by
  obtain ⟨f1,F',rfl,rfl,rfl,_,_,_,hj,hd,h2⟩:=h
  rcases List.mem_cons.1 hf with e1|m1
  ·rcases List.mem_cons.1 hf' with e2|m2
   ·exact ⟨fun _=>by rw [e1,e2],fun _=>by rw [e1,e2]⟩
   ·exact ⟨fun e=>absurd (e.symm.trans (congrArg Flt.d e1)) (hd f' m2),fun e=>absurd (e.symm.trans (congrArg Flt.j e1)) (hj f' m2)⟩
  ·rcases List.mem_cons.1 hf' with e2|m2
   ·exact ⟨fun e=>absurd (e.trans (congrArg Flt.d e2)) (hd f m1),fun e=>absurd (e.trans (congrArg Flt.j e2)) (hj f m1)⟩
   ·exact RF.inj h2 f m1 f' m2
theorem RF.snoc {f:Flt} (h1:FltOk P ops n f) (h2:FltV P f):∀ {l:List (Nat × Nat × Nat)} {F:List Flt},RF P ops n l F→(∀ f'∈F,f'.j≠f.j)→(∀ f'∈F,f'.d≠f.d)→RF P ops n (l++[(f.j,f.d,f.t)]) (F++[f])
 | [],F,h,_,_=>by have:F=[]:=h; subst this; exact ⟨f,[],rfl,rfl,rfl,rfl,h1,h2,(fun f' h=>by cases h),(fun f' h=>by cases h),rfl⟩
 | (j,d,t)::l,F,h,hj,hd=>by
  obtain ⟨f1,F',rfl,rfl,rfl,rfl,k1,k2,k3,k4,k5⟩:=h
  refine ⟨f1,F'++[f],rfl,rfl,rfl,rfl,k1,k2,fun f' hf'=>?_,fun f' hf'=>?_,RF.snoc h1 h2 k5 (fun f' hf'=>hj f' (List.mem_cons_of_mem _ hf')) (fun f' hf'=>hd f' (List.mem_cons_of_mem _ hf'))⟩
  ·rcases List.mem_append.1 hf' with hf'|hf'
   ·exact k3 f' hf'
   ·rw [List.mem_singleton.1 hf']; exact (hj f1 List.mem_cons_self).symm
  ·rcases List.mem_append.1 hf' with hf'|hf'
   ·exact k4 f' hf'
   ·rw [List.mem_singleton.1 hf']; exact (hd f1 List.mem_cons_self).symm
theorem notIn_ok :∀ {l:List (Nat × Nat × Nat)} {F:List Flt} {d:Option Nat},RF P ops n l F→notIn d l=true→∀ f∈F,d≠some f.d∧∀ t v,yQ f.ar t=some v→d≠some t
 | [],F,d,h,_,f,hf=>by have:F=[]:=h; subst this; cases hf
 | (j,e,t)::l,F,d,h,hn,f,hf=>by
  obtain ⟨f1,F',rfl,rfl,rfl,rfl,_,hv,hj,hd,h2⟩:=h
  cases d with
  | none=>exact ⟨(fun h=>by cases h),fun _ _ _ h=>(by cases h)⟩
  | some d =>
   simp only [notIn,cond_eq_ite,Bool.or_eq_true,Nat.beq_eq] at hn
   split at hn
   ·cases hn
   ·rename_i hne
    rcases List.mem_cons.1 hf with rfl|hf
    ·refine ⟨fun e=>hne (.inl (by simpa using e)),fun t v ht e=>hne (.inr ?_)⟩
     simp only [Option.some.injEq] at e; subst e
     rcases hv with ⟨_,h,_⟩|⟨_,_,h,_⟩|⟨h1,h2,u,_,_,_,_,_,h,_⟩
     ·rw [h] at ht; cases ht
     ·rw [h] at ht; cases ht
     ·rw [h] at ht
      simp only [yQ] at ht
      split at ht
      ·rename_i e
       subst e
       unfold argIs
       have g1:¬ Nat.mod f.t 2=1:=h1
       have g2:¬ Nat.blt (Nat.div f.t 2) 1048576=true:=fun e=>h2 (Nat.le_of_ble_eq_true e)
       have g3:1≤f.t / 2 / 1048576:=by omega
       rw [Bool.eq_false_iff.2 (fun h=>g1 (Nat.eq_of_beq_eq_true h)),Bool.eq_false_iff.2 g2]
       simp only [cond_false,Nat.beq_eq]
       show f.t / 2 / 1048576=(f.t / 2 / 1048576 - 1)+1
       omega
      ·cases ht
    ·exact notIn_ok h2 hn f hf
theorem notJ_ok {j:Nat}:∀ {l:List (Nat × Nat × Nat)} {F:List Flt},RF P ops n l F→notJ j l=true→∀ f∈F,f.j≠j
 | [],F,h,_,f,hf=>by have:F=[]:=h; subst this; cases hf
 | (j',d',t')::l,F,h,hn,f,hf=>by
  obtain ⟨f1,F',rfl,rfl,_,_,_,_,_,_,h2⟩:=h
  simp only [notJ,cond_eq_ite,Nat.beq_eq] at hn
  split at hn
  ·cases hn
  ·rename_i hne
   rcases List.mem_cons.1 hf with rfl|hf
   ·exact hne
   ·exact notJ_ok h2 hn f hf
theorem fltOf_ok (hT:TOk P TT):∀ {F:List Nat} {l:List (Nat × Nat × Nat)},fltOf ops n F=some l→(∀ p∈l,p.2.2 % 2=1∨∃ z,zerT TT (p.2.2 / 2)=some z)→∃ Fc,RF P ops n l Fc∧Fc.map (·.j)=F∧∀ f∈Fc,f.ar=[]
 | [],l,h,_=>by simp only [fltOf,Option.some.injEq] at h; subst h; exact ⟨[],rfl,rfl,fun f hf=>by cases hf⟩
 | j::F,l,h,hz=>by
  simp only [fltOf] at h
  split at h
  ·rename_i o ho
   split at h
   ·rename_i t d hop hdst hgd
    rw [cond_eq_ite] at h
    split at h
    ·rename_i hd
     split at h
     ·rename_i l' hl
      rw [cond_eq_ite] at h
      split at h
      ·rename_i hn
       simp only [Bool.and_eq_true] at hn
       simp only [Option.some.injEq] at h; subst h
       obtain ⟨Fc,h1,h2,h3⟩:=fltOf_ok hT hl fun p hp=>hz p (List.mem_cons_of_mem _ hp)
       have hfl:∃ ob mk,FltOk P ops n ⟨j,d,t,ob,mk,[]⟩∧FltV P ⟨j,d,t,ob,mk,[]⟩:=by
        have hz1:=hz _ (List.mem_cons_self)
        cases hopx:o.op with
        | alloc t' =>
         rw [hopx] at hop
         simp only [fltC,cond_eq_ite,kU,decide_eq_true_eq] at hop
         split at hop
         case isFalse=>cases hop
         rename_i hlt
         simp only [Option.some.injEq] at hop
         have ht:t=2*t':=hop.symm
         have hz2:∃ z,zerT TT (t / 2)=some z:=hz1.resolve_left (by show ¬ t % 2=1; omega)
         have ht2:t / 2=t':=by omega
         rw [ht2] at hz2
         obtain ⟨z,hzt⟩:=hz2
         obtain ⟨m,by',zv,_,_,hI,_,_⟩:=zer_ok hT hzt
         refine ⟨.cells zv.cells.toList.toArray t' (0,0),fun b=>.pointer (some ⟨b,0,none⟩),?_,.inr (.inl ⟨by show ¬ t % 2=1; omega,by show t / 2<_; omega,rfl,rfl,?_⟩)⟩
         ·obtain ⟨info,i1,i2,i3,i4⟩:=hI.out
          refine ⟨o,ho,hdst,hgd,by simpa [kU] using hd,fun a w _=>?_⟩
          unfold execOp
          simp only [hopx,Instr.alloc,zeroValue,typeInfo,Sem.run_bind,run_program,i1,i4,run_newVar,Result.andThen_ok,Sem.run_pure]
         ·intro by2 sz2 z2 hI2
          have hI2:Inf P (t / 2) sz2 by2 z2:=hI2
          rw [ht2] at hI2
          show Obj.cells zv.cells.toList.toArray t' (0,0)=Obj.cells z2.cells.toList.toArray (t / 2) (0,0)
          rw [ht2]
          obtain ⟨i1,a1,_,_,a4⟩:=hI.out
          obtain ⟨i2,b1,_,_,b4⟩:=hI2.out
          rw [a1] at b1; simp only [Option.some.injEq] at b1; subst b1
          rw [a4] at b4; simp only [Option.some.injEq] at b4; rw [b4]
        | makeMap t' r =>
         rw [hopx] at hop
         cases r with
         | some _=>cases hop
         | none =>
          simp only [fltC,Option.some.injEq] at hop
          have ht:t=2*t'+1:=hop.symm
          refine ⟨.map #[] 0,fun b=>.map (some b),?_,.inl ⟨by show t % 2=1; omega,rfl,rfl,rfl⟩⟩
          refine ⟨o,ho,hdst,hgd,by simpa [kU] using hd,fun a w _=>?_⟩
          unfold execOp
          have hnew:(newObj (.map #[] 0)).run P w=.ok w.heap.size (w.alloc (.map #[] 0)):=rfl
          simp [hopx,Instr.makeMap,hnew]
        | _=>rw [hopx] at hop; cases hop
       obtain ⟨ob,mk,hfl1,hfl2⟩:=hfl
       refine ⟨⟨j,d,t,ob,mk,[]⟩::Fc,⟨_,Fc,rfl,rfl,rfl,rfl,hfl1,hfl2,?_,?_,h1⟩,by simp [h2],fun f hf=>by rcases List.mem_cons.1 hf with rfl|hf; rfl; exact h3 f hf⟩
       ·exact notJ_ok h1 hn.2
       ·intro f' hf' e
        exact (notIn_ok h1 hn.1 f' hf').1 (by rw [e])
      ·cases h
     ·cases h
    ·cases h
   ·cases h
  ·cases h
theorem fits_g {a:Act} {A:Fts} {g:Env} (h:jE n a (envF A++g)) (hd:∀ p∈A,yQ g p.1.d=none):jE n a g :=
 fits_right h fun t v hv=>look_envF fun p hp e=>by subst e; rw [hd p hp] at hv; cases hv
theorem look_put_none {g:Env} {d:Nat} {dst:Option Nat} {v:Value} (h:yQ g d=none) (hd:dst≠some d):yQ (jW g dst v) d=none:=by
 cases dst with
 | none=>exact h
 | some e=>simp only [jW,yQ]; rw [if_neg (fun e'=>hd (by rw [e']))]; exact h
theorem vH {F:List Flt}:∀ {g:Env} {t:Nat} {v:Value},yQ (g.filter fun p=>!(F.any fun f=>f.d==p.1)) t=some v→yQ g t=some v∧∀ f∈F,f.d≠t
 | [],t,v,h=>by cases h
 | (d,u)::g,t,v,h=>by
  rw [List.filter_cons] at h
  split at h
  ·rename_i hk
   simp only [yQ] at h ⊢
   split at h
   ·rename_i e
    subst e
    rw [if_pos O]
    refine ⟨h,fun f hf e=>?_⟩
    simp only [Bool.not_eq_true',List.any_eq_false,beq_iff_eq] at hk
    exact hk f hf e
   ·rename_i e
    obtain ⟨h1,h2⟩:=vH h
    exact ⟨by rw [if_neg e]; exact h1,h2⟩
  ·rename_i hk
   obtain ⟨h1,h2⟩:=vH h
   refine ⟨?_,h2⟩
   simp only [yQ]
   rw [if_neg]
   ·exact h1
   ·intro e
    subst e
    simp only [Bool.not_eq_true',Bool.not_eq_false,List.any_eq_true,beq_iff_eq] at hk
    obtain ⟨f,hf,e⟩:=hk
    exact h2 f hf e
theorem look_filter {F:List Flt}:∀ {g:Env} {t:Nat} {v:Value},yQ g t=some v→(∀ f∈F,f.d≠t)→yQ (g.filter fun p=>!(F.any fun f=>f.d==p.1)) t=some v
 | [],t,v,h,_=>by cases h
 | (d,u)::g,t,v,h,hf=>by
  rw [List.filter_cons]
  simp only [yQ] at h
  split at h
  ·rename_i e
   subst e
   rw [if_pos (by simp only [Bool.not_eq_true',List.any_eq_false,beq_iff_eq]; exact fun f hff e=>hf f hff e)]
   simp only [yQ,if_true]; exact h
  ·rename_i e
   split
   ·simp only [yQ,if_neg e]; exact look_filter h hf
   ·exact look_filter h hf
theorem bld_num (t x:Nat) (h:t<1048576):2*(t+1048576*(x+1)) / 2=t+1048576*(x+1)∧(t+1048576*(x+1)) % 1048576=t∧(t+1048576*(x+1)) / 1048576=x+1∧¬ (2*(t+1048576*(x+1))) % 2=1:=by omega
theorem sub_put {g:Env} {d:Option Nat} {ar:Env} (hs:Sub g ar) (hn:∀ t v,yQ ar t=some v→d≠some t) (u:Value):Sub (jW g d u) ar:=fun t v hv=>by
 cases d with
 | none=>exact hs t v hv
 | some e =>
  simp only [jW,yQ]
  rw [if_neg (fun h=>hn t v hv (by rw [h]))]; exact hs t v hv
theorem run_build {t e:TypeId} (hu:P.underlying t=some (.slice e)) {sz by':Nat} {z:Value} (hi:Inf P e sz by' z) {len:Nat} {x:Nat} {u:Value} {os:List Value} (hlim:len*sz≤16777216) (hz:z.cells.size=sz)
  (hfill':fillL (fun i=>some (i*sz,sz)) (List.replicate len z.cells.toList).flatten [(0,u)]=some os) {o:Oper} (ho:o.op=.buildSlice t len #[(0,.tmp x)]) {a:Act} (ha:jE n (vY a) [(x,u)]) (w:World) :
  (execOp a.eval o).run P w=.ok (.value (.slice (some ⟨w.heap.size,0,none⟩) len len)) (w.alloc (.cells os.toArray e (0,0))):=by
 obtain ⟨i,h1,h2,h3,h4⟩:=hi.out
 have hfill:=fill_eq _ _ _ _ hfill'
 rw [← zeros_eq z.cells len sz hz] at hfill
 have hx:a.eval (.tmp x)=u:=ha.ev (a:=vY a) (x:=.tmp x) (by simp [ev,yQ])
 have hlim':¬ (len*sz > 2 ^ 24):=by omega
 have hnew:∀ c:Array Value,(newRow e c).run P w=.ok ⟨w.heap.size,0,none⟩ (w.alloc (.cells c e)):=fun _=>rfl
 unfold execOp
 simp only [ho,Instr.buildSlice,Sem.run_bind,run_underlying hu,Result.andThen_ok,sizeOf,typeInfo,run_program,h1,Sem.run_pure,h2,hlim',if_false,List.map_toArray,List.map_cons,List.map_nil,hx,List.toList_toArray]
 by_cases h0:len*sz=0
 ·have hf':Instr.fill (fun i=>some (i*sz,sz)) ((Array.range (len*sz)).map ((#[]:Array Value)[· % (#[]:Array Value).size]!)) [(0,u)]=some os.toArray:=by
   have er:Array.range 0=#[]:=rfl
   rw [← hfill,h0,er]; simp only [List.map_nil,Array.map_empty]
  simp only [h0,if_true,Sem.run_pure,Result.andThen_ok,Sem.run_bind]
  rw [h0] at hf'
  rw [hf']
  simp only [hnew,Sem.run_bind,Result.andThen_ok,Sem.run_pure]
 ·simp only [h0,if_false,zeroValue,typeInfo,Sem.run_bind,run_program,h1,h4,Sem.run_pure,Result.andThen_ok,hfill,hnew]
theorem bld_ok (hT:TOk P TT) {V:Val} {E:En} {g:Env} {H:T AO} {nx:Nat} (hE:RE V E g) {t x:Nat} {r:Eff} (hr:buildSA TT H E nx t 1 #[(0,.tmp x)]=some r) :
  ∃ u e sz by' z l os,yQ g x=some u∧P.underlying t=some (.slice e)∧Inf P e sz by' z∧1*sz≤16777216∧z.cells.size=sz∧fillL (fun i=>some (i*sz,sz)) (List.replicate 1 z.cells.toList).flatten [(0,u)]=some os∧r=(.sl nx 0 1 1 true,H.put (blkA e l) nx,Nat.succ nx)∧RL V l os∧yW os:=by
 unfold buildSA at hr
 split at hr
 ·rename_i e hu
  split at hr
  ·cases hr
  ·rename_i vs hvs
   split at hr
   ·cases hr
   ·rename_i z hz
    split at hr
    ·cases hr
    ·rename_i zs hzs
     split at hr
     ·cases hr
     ·rename_i sz hsz
      simp only [cond_eq_ite] at hr
      split at hr
      ·rename_i hlim
       have hlim:=Nat.le_of_ble_eq_true hlim
       split at hr
       ·cases hr
       ·rename_i l hf
        simp only [Option.some.injEq] at hr; subst hr
        obtain ⟨us,h1,h2⟩:=opndL_ok hE hvs
        obtain ⟨m,by',zv,hm,_,hI,hcs,hR⟩:=zer_ok hT hz
        have e1:m=sz:=by rw [hm] at hsz; simpa using hsz
        subst e1
        obtain ⟨hzc,hz1⟩:=wY hzs (hR V)
        have h1':∃ u,yQ g x=some u∧us=[u]:=by
         have h1:evs g [.tmp x]=some us:=h1
         simp only [evs,ev] at h1
         cases hx:yQ g x with
         | none=>rw [hx] at h1; cases h1
         | some u=>rw [hx] at h1; simp only [Option.some.injEq] at h1; exact ⟨u,rfl,h1.symm⟩
        obtain ⟨u,hx,rfl⟩:=h1'
        have hl:vs.length=(#[(0,Operand.tmp x)]:Array (Nat × Operand)).toList.length:=by have:=h2.length; simpa using this.symm
        obtain ⟨os,h3,h4,h5⟩:=fillA_ok h2 hl (repA_ok hzc 1) (uQ hz1 1) hf
        exact ⟨u,e,m,by',zv,l,os,hx,yP hT hu,hI,hlim,hcs,h3,rfl,h4,h5⟩
      ·cases hr
 ·cases hr
theorem fl_new (hT:TOk P TT) {V:Val} {E:En} {g:Env} {H:T AO} {nx j d c:Nat} {o:Oper} {r:Eff} (hE:RE V E g) (ho:ops[j]?=some o) (hc:bldC o.op=some c) (hdst:o.dst=some d) (c1:Nat.blt d n=true) (c3:o.guard=none) (c5:argIs c d=false) (hbld:bldA TT E H nx c=some r) :
  ∃ f:Flt,f.j=j∧f.d=d∧f.t=c∧FltOk P ops n f∧FltV P f∧∃ x u,f.ar=[(x,u)]∧yQ g x=some u∧f.d≠x:=by
 have hop:∃ t x,o.op=.buildSlice t 1 #[(0,.tmp x)]∧t<1048576∧c / 2=t+1048576*(x+1)∧(c / 2) % 1048576=t∧c / 2 / 1048576=x+1∧¬ c % 2=1:=by
  unfold bldC at hc
  split at hc
  ·rename_i t len parts hop
   split at hc
   ·split at hc
    ·rename_i x hp
     rw [cond_eq_ite] at hc
     split at hc
     ·rename_i hlt
      simp only [kU,decide_eq_true_eq] at hlt
      simp only [Option.some.injEq] at hc
      have hparts:parts=#[(0,Operand.tmp x)]:=by apply Array.ext'; simpa using hp
      obtain ⟨e1,e2,e3,e0⟩:=bld_num t x hlt
      have hc:2*(t+1048576*(x+1))=c:=hc
      rw [hc] at e1 e0
      exact ⟨t,x,by rw [hop,hparts],hlt,e1,by rw [e1]; exact e2,by rw [e1]; exact e3,e0⟩
     ·cases hc
    ·cases hc
   ·cases hc
  ·cases hc
 obtain ⟨t,x,hop,hlt,e1,e2,e3,e0⟩:=hop
 have e4:¬ c / 2<1048576:=by rw [e1]; intro h; exact absurd (Nat.lt_of_le_of_lt (Nat.le_trans (Nat.le_mul_of_pos_right 1048576 (Nat.succ_pos x)) (Nat.le_add_left _ t)) h) (Nat.lt_irrefl _)
 have hbld':buildSA TT H E nx t 1 #[(0,.tmp x)]=some r:=by
  have hb:=hbld
  unfold bldA at hb
  rw [show Nat.mod (Nat.div c 2) 1048576=t from e2,show Nat.div (Nat.div c 2) 1048576=x+1 from e3] at hb
  exact hb
 obtain ⟨u,e,sz,by',z,l,os,hx,hu,hI,hlim,hz,hfill,_,_,_⟩:=bld_ok hT hE hbld'
 have hdx:d≠x:=fun h=>by
  subst h
  unfold argIs at c5
  have g1:¬ Nat.mod c 2=1:=e0
  have g2:¬ Nat.blt (Nat.div c 2) 1048576=true:=fun e=>e4 (Nat.le_of_ble_eq_true e)
  rw [Bool.eq_false_iff.2 (fun h=>g1 (Nat.eq_of_beq_eq_true h)),Bool.eq_false_iff.2 g2] at c5
  simp only [cond_false] at c5
  rw [show Nat.div (Nat.div c 2) 1048576=d+1 from e3,Nat.beq_refl] at c5; cases c5
 refine ⟨⟨j,d,c,.cells os.toArray e (0,0),fun b=>.slice (some ⟨b,0,none⟩) 1 1,[(x,u)]⟩,rfl,rfl,rfl,⟨o,ho,hdst,c3,Nat.le_of_ble_eq_true c1,fun a w ha=>run_build hu hI hlim hz hfill hop ha w⟩,
  .inr (.inr ⟨e0,e4,u,e,sz,by',z,os,?_,?_,hI,hfill,rfl,rfl⟩),x,u,rfl,hx,hdx⟩
 ·show [(x,u)]=[((c / 2 / 1048576).pred,u)]
  rw [e3]; rfl
 ·show P.underlying (c / 2 % 1048576)=_
  rw [e2]; exact hu
theorem fl_env {f:Flt} {g:Env} {Fc:List Flt} {x:Nat} {u:Value} (har:f.ar=[(x,u)]) (hx:yQ g x=some u) (hdx:f.d≠x) (hg:∀ f∈Fc,Sub g f.ar∧yQ g f.d=none) (hk0:∀ f'∈Fc,some f.d≠some f'.d∧∀ t v,yQ f'.ar t=some v→some f.d≠some t) :
  ∃ g',Sub g g'∧(∀ t v,yQ g t=some v→t≠f.d→yQ g' t=some v)∧∀ f'∈Fc++[f],Sub g' f'.ar∧yQ g' f'.d=none:=by
 have kp:∀ t v,yQ g t=some v→t≠f.d→yQ (g.filter fun p=>!([f].any fun f=>f.d==p.1)) t=some v:=fun t v ht hne=>look_filter ht fun f' hf'=>by rw [List.mem_singleton.1 hf']; exact fun e=>hne e.symm
 have kn:∀ t,yQ g t=none→yQ (g.filter fun p=>!([f].any fun f=>f.d==p.1)) t=none:=fun t ht=>by
  cases hl:yQ (g.filter fun p=>!([f].any fun f=>f.d==p.1)) t with
  | none=>rfl
  | some v=>have:=(vH hl).1; rw [ht] at this; cases this
 refine ⟨_,fun t v hv=>(vH hv).1,kp,fun f' hf'=>?_⟩
 rcases List.mem_append.1 hf' with hf'|hf'
 rotate_left
 ·obtain rfl:=List.mem_singleton.1 hf'
  refine ⟨fun t v hv=>?_,?_⟩
  ·rw [har] at hv
   simp only [yQ] at hv
   split at hv
   ·rename_i e
    subst e
    obtain rfl:u=v:=by simpa using hv
    exact kp x u hx fun e=>hdx e.symm
   ·cases hv
  ·cases hl:yQ (g.filter fun p=>!([f'].any fun f=>f.d==p.1)) f'.d with
   | none=>rfl
   | some v=>exact absurd O ((vH hl).2 f' (List.mem_singleton.2 O))
 ·exact ⟨fun t v hv=>kp t v ((hg f' hf').1 t v hv) fun e=>(hk0 f' hf').2 t v hv (by rw [e]),kn _ (hg f' hf').2⟩
theorem now_ok (hT:TOk P TT) {V:Val} {E:En} {g:Env} {H0 H:T AO} {nx nx2:Nat} {f:Flt} {v:AV} (hE:RE V E g) (hf2:FltV P f) (har:Sub g f.ar) (hal:nowA TT E H0 nx f.t=some (v,H,nx2)) :
  ∃ av o,v=av∧H=H0.put o nx∧nx2=Nat.succ nx∧(∀ V',V≤V'→RO P V' 0 o f.ob)∧∀ b,R (V.set nx b 0) av (f.vl b):=by
 unfold nowA at hal
 rw [cond_eq_ite,cond_eq_ite] at hal
 rcases hf2 with ⟨g1,_,g2,g3⟩|⟨g1,g0,_,g2,g3⟩|⟨g1,g0,u,e,sz,by',z,os,gar,gu,gI,gf,g2,g3⟩
 ·have hb:Nat.beq (Nat.mod f.t 2) 1=true:=by rw [Nat.beq_eq]; exact g1
  rw [if_pos hb] at hal
  simp only [Option.some.injEq,Prod.mk.injEq] at hal
  obtain ⟨rfl,rfl,rfl⟩:=hal
  refine ⟨_,_,rfl,rfl,rfl,fun V' _=>?_,fun b=>?_⟩
  ·rw [g2]; exact ⟨[],rfl,rfl⟩
  ·rw [g3]; unfold R; exact ⟨b,0,Val.set_self _ _ _ _,rfl⟩
 ·have hb:¬ Nat.beq (Nat.mod f.t 2) 1=true:=by rw [Nat.beq_eq]; exact g1
  rw [if_neg hb,if_pos (show Nat.blt (Nat.div f.t 2) 1048576=true from Nat.ble_eq_true_of_le g0)] at hal
  unfold allocA at hal
  split at hal
  ·cases hal
  ·rename_i z hz
   split at hal
   ·cases hal
   ·rename_i l hl
    simp only [Option.some.injEq,Prod.mk.injEq] at hal
    obtain ⟨rfl,rfl,rfl⟩:=hal
    obtain ⟨m,by',zv,hm,_,hI,hsz,hR⟩:=zer_ok hT hz
    obtain ⟨k1,k2⟩:=wY hl (hR V)
    have hfz:=g3 _ _ _ hI
    exact ⟨_,_,rfl,rfl,rfl,fun V' hle=>by rw [hfz]; exact blk_ok k1 k2 _ hle,fun b=>by rw [g2]; exact ptr_ok⟩
 ·have hb:¬ Nat.beq (Nat.mod f.t 2) 1=true:=by rw [Nat.beq_eq]; exact g1
  rw [if_neg hb,if_neg (show ¬ Nat.blt (Nat.div f.t 2) 1048576=true from fun e=>g0 (Nat.le_of_ble_eq_true e))] at hal
  unfold bldA at hal
  obtain ⟨u2,e2,sz2,by2,z2,l,os2,hx2,hu2,hI2,_,hz2,hfill2,hr2,hl2,ho2⟩:=bld_ok hT hE hal
  have hx:=har (f.t / 2 / 1048576).pred u (by rw [gar]; simp [yQ])
  have hx2:yQ g (f.t / 2 / 1048576).pred=some u2:=hx2
  rw [hx] at hx2
  simp only [Option.some.injEq] at hx2; subst hx2
  have hu2:P.underlying (f.t / 2 % 1048576)=some (.slice e2):=hu2
  rw [gu] at hu2
  simp only [Option.some.injEq,TypeDesc.slice.injEq] at hu2; subst hu2
  obtain ⟨i1,a1,a2,_,a4⟩:=gI.out
  obtain ⟨i2,b1,b2,_,b4⟩:=hI2.out
  rw [a1] at b1; simp only [Option.some.injEq] at b1; subst b1
  rw [a4] at b4; simp only [Option.some.injEq] at b4; subst b4
  rw [a2] at b2; subst b2
  rw [gf] at hfill2
  simp only [Option.some.injEq] at hfill2; subst hfill2
  simp only [Prod.mk.injEq] at hr2
  obtain ⟨rfl,rfl,rfl⟩:=hr2
  refine ⟨_,_,rfl,rfl,rfl,fun V' hle=>by rw [g2]; exact blk_ok hl2 ho2 _ hle,fun b=>?_⟩
  rw [g3]; unfold R; exact ⟨b,0,Val.set_self _ _ _ _,Nat.le_refl _,rfl⟩
theorem runW_ok (hT:TOk P TT) (hS:Snd P rec) (hsel:Region.noSelect ops=true) {V0:Val} {e:Ex} {s':S}:∀ (items:List Item) (F:List (Nat × Nat × Nat)) (Fc:List Flt) (W:PW) (Wc:jO) (listed:Array Bool) (s:S) (V:Val) (g:Env) (h:Hp) (ds:List Deferred),
  vV TT rec n ops items F W s=.ok e s'→V0≤V→RS P V s g h→RDs B V s.D ds→RW V W Wc→RF P ops n F Fc→(∀ f∈Fc,Sub g f.ar∧yQ g f.d=none)→HoldXW P n w0 ops Fc Wc listed items (PQ B P V0 fr e s') ds g (h+fr)
 | [],F,Fc,W,Wc,listed,s,V,g,h,ds,hr,hV,hs,hd,hW,hF,hg=>by
  simp only [vV,Rs.ok.injEq] at hr
  obtain ⟨rfl,rfl⟩:=hr
  intro hok
  have hok':=hok
  simp only [jM,Bool.and_eq_true] at hok'
  have:Fc=[]:=by simpa using hok'.1
  subst this
  exact yE ⟨rfl,V,h,hV,rfl,hs,hd⟩ hok
 | .q i::rest,F,Fc,W,Wc,listed,s,V,g,h,ds,hr,hV,hs,hd,hW,hF,hg=>by
  simp only [vV] at hr
  split at hr
  ·cases hr
  ·rename_i o ho
   rw [cond_eq_ite] at hr
   split at hr
   ·rename_i hdst
    simp only [Bool.and_eq_true] at hdst
    have hdst1:=dst_ok hdst.1
    have hdst2:=notIn_ok hF hdst.2
    have hg':∀ v,∀ f∈Fc,Sub (jW g o.dst v) f.ar∧yQ (jW g o.dst v) f.d=none:=fun v f hf=>⟨sub_put (hg f hf).1 (hdst2 f hf).2 v,look_put_none (hg f hf).2 (hdst2 f hf).1⟩
    have nowatch:∀ p∈(i,fun _=>True)::jO.at P Wc,p∈jO.at P Wc∨∀ w,p.2 w:=fun p hp=>by
     rcases List.mem_cons.1 hp with rfl|hp
     ·exact .inr fun _=>trivial
     ·exact .inl hp
    split at hr
    ·cases hr
    ·rename_i hw
     have hw:=uL hs.env hw
     refine W_take PQ.np hsel (fun _=>True) Wc ho hdst1 (fun f hf=>(hdst2 f hf).1) nowatch (fun _ _ _=>trivial) id (fun A a hA ha=>.inr ⟨vL (fits_g ha fun p hp=>(hg p.1 (hA p hp)).2) hw,rfl⟩)
      (runW_ok hT hS hsel rest F Fc W Wc _ _ V _ h ds hr hV ⟨hs.env.put R.und o.dst,hs.heap⟩ hd hW hF (hg' _))
    ·rename_i hw
     have hw:=uL hs.env hw
     split at hr
     ·rename_i t x hop
      split at hr
      ·rename_i v id off hl
       obtain ⟨b,C,u,h1,h2,h3,h4,h5⟩:=loadO_ok (w0:=w0) hT hs.env hs.heap hl
       refine W_take PQ.np hsel (fun w=>(loadVar t ⟨b,off,none⟩).run P w=.ok u w) ((i,t,⟨b,off,none⟩,u)::Wc) ho hdst1 (fun f hf=>(hdst2 f hf).1) (fun p hp=>.inl hp) (fun X w hst=>h3 fr w hst.right)
        (fun hWl p hp=>by rcases List.mem_cons.1 hp with rfl|hp; exact h3 fr; exact hWl p hp)
        (fun A a hA ha=>.inl ⟨vL (fits_g ha fun p hp=>(hg p.1 (hA p hp)).2) hw,fun w hw'=>?_⟩)
        (runW_ok hT hS hsel rest F Fc _ ((i,t,⟨b,off,none⟩,u)::Wc) _ _ V _ h ds hr hV ⟨hs.env.put h4 o.dst,hs.heap⟩ hd ⟨b,C,u,Wc,rfl,h1,h4,hW⟩ hF (hg' _))
       rw [show execOp a.eval o=_ from h2 o (vY a) n hop (fits_g ha fun p hp=>(hg p.1 (hA p hp)).2)]
       simp only [Sem.run_bind,hw',Result.andThen_ok,Sem.run_pure]
      ·cases hr
     ·rename_i op hop
      split at hr
      ·rename_i v hv
       obtain ⟨u,h1,h2⟩:=doP_ok hT hs.env hv
       exact W_take PQ.np hsel (fun _=>True) Wc ho hdst1 (fun f hf=>(hdst2 f hf).1) nowatch (fun _ _ _=>trivial) id
        (fun A a hA ha=>.inl ⟨vL (fits_g ha fun p hp=>(hg p.1 (hA p hp)).2) hw,fun w _=>h1 o (vY a) w n O (fits_g ha fun p hp=>(hg p.1 (hA p hp)).2)⟩)
        (runW_ok hT hS hsel rest F Fc W Wc _ _ V _ h ds hr hV ⟨hs.env.put h2 o.dst,hs.heap⟩ hd hW hF (hg' _))
      ·cases hr
   ·cases hr
 | .e i::rest,F,Fc,W,Wc,listed,s,V,g,h,ds,hr,hV,hs,hd,hW,hF,hg=>by
  simp only [vV] at hr
  split at hr
  ·cases hr
  ·rename_i o ho
   rw [cond_eq_ite] at hr
   split at hr
   ·rename_i hdst
    simp only [Bool.and_eq_true] at hdst
    have hdst1:=dst_ok hdst.1
    have hdst2:=notIn_ok hF hdst.2
    have hg':∀ v,∀ f∈Fc,Sub (jW g o.dst v) f.ar∧yQ (jW g o.dst v) f.d=none:=fun v f hf=>⟨sub_put (hg f hf).1 (hdst2 f hf).2 v,look_put_none (hg f hf).2 (hdst2 f hf).1⟩
    have hfit:∀ {A:Fts} {a:Act} {v:Value},(∀ p∈A,p.1∈Fc)→jE n (vY a) (envF A++g)→jE n (vY (a.put o.dst v)) (envF A++jW g o.dst v):=fun hA ha=>by
     rw [bare_put]; exact fits_putF ha hdst1 (fun p hp=>(hdst2 p.1 (hA p hp)).1) _
    refine W_e hF.all hg ?_
    intro hWl A a w hA ha hds hst K hK
    have hag:=fits_g ha fun p hp=>(hg p.1 (hA p hp)).2
    unfold wpOp
    simp only [ho]
    split at hr
    ·cases hr
    ·rename_i hw
     have hw:=uL hs.env hw
     have hwn:Region.wanted o (yielded ops a.tmps)=false:=vL hag hw
     simp only [hwn,Bool.false_eq_true,if_false]
     refine hK _ w ⟨jW g o.dst undef,h+fr,Wc,?_,fun p hp=>.inl (List.mem_filter.1 hp).1,hWl,hfit hA ha,hst⟩
     rw [vG]
     exact runW_ok hT hS hsel rest F Fc W Wc _ _ V _ h _ hr hV ⟨hs.env.put R.und o.dst,hs.heap⟩ (by rw [hds]; exact hd) hW hF (hg' _)
    ·rename_i hw
     have hw:=uL hs.env hw
     have hwn:Region.wanted o (yielded ops a.tmps)=true:=vL hag hw
     simp only [hwn,if_true]
     left
     have hL:hpF A+(h+fr)=h+(hpF A+fr):=by ac_rfl
     split at hr
     ·rename_i v H nx hstep
      split at hr
      ·rename_i W' hW'
       refine wp_eff (n:=n) O (stepO_val (w0:=w0) (fr:=hpF A+fr) hT hs.env hs.heap hstep) hag (by rw [← hL]; exact hst) ?_
       rintro u L' w' ⟨V',h',hle,rfl,hR,hH⟩ hst'
       obtain ⟨Wc',k1,k2,k3⟩:=rechk_ok (w0:=w0) (fr:=fr) hT hH hW' (hW.mono hle)
       refine hK _ w' ⟨jW g o.dst u,h'+fr,Wc',?_,?_,k3,hfit hA ha,?_⟩
       ·rw [vG]
        exact runW_ok hT hS hsel rest F Fc W' Wc' _ _ V' _ h' _ hr (Val.trans hV hle) ⟨(hs.env.mono hle).put hR o.dst,hH⟩ (by rw [hds]; exact hd.mono hle) k1 hF (hg' _)
       ·intro p hp
        obtain ⟨hp1,hp2⟩:=List.mem_filter.1 hp
        obtain ⟨q,hq,rfl⟩:=List.mem_map.1 hp1
        rcases k2 q hq with hb|hm
        ·simp [hb] at hp2
        ·exact .inl (List.mem_map.2 ⟨q,hm,rfl⟩)
       ·rw [show hpF A+(h'+fr)=h'+(hpF A+fr) by ac_rfl]; exact hst'
      ·cases hr
     ·rename_i k vs hstep
      obtain ⟨us,h1,h2⟩:=stepO_call (P:=P) (g:=g) hs.env hstep
      split at hr
      ·rename_i v H nx hcall
       split at hr
       ·rename_i W' hW'
        obtain ⟨h3,h4⟩:=hS.fn hcall
        refine wp_call (n:=n) O (h2 h3) (h4 (w0:=w0) h1 hs.heap) (by rw [hL]) hag hst ?_
        rintro u h' w' ⟨V',hle,hR,hH⟩ hst'
        obtain ⟨Wc',k1,k2,k3⟩:=rechk_ok (w0:=w0) (fr:=fr) hT hH hW' (hW.mono hle)
        refine hK _ w' ⟨jW g o.dst u,h'+fr,Wc',?_,?_,k3,hfit hA ha,?_⟩
        ·rw [vG]
         exact runW_ok hT hS hsel rest F Fc W' Wc' _ _ V' _ h' _ hr (Val.trans hV hle) ⟨(hs.env.mono hle).put hR o.dst,hH⟩ (by rw [hds]; exact hd.mono hle) k1 hF (hg' _)
        ·intro p hp
         obtain ⟨hp1,hp2⟩:=List.mem_filter.1 hp
         obtain ⟨q,hq,rfl⟩:=List.mem_map.1 hp1
         rcases k2 q hq with hb|hm
         ·simp [hb] at hp2
         ·exact .inl (List.mem_map.2 ⟨q,hm,rfl⟩)
        ·rw [show hpF A+(h'+fr)=h'+(hpF A+fr) by ac_rfl]; exact hst'
       ·cases hr
      ·cases hr
      ·cases hr
     ·cases hr
   ·cases hr
 | .fl j::rest,F,Fc,W,Wc,listed,s,V,g,h,ds,hr,hV,hs,hd,hW,hF,hg=>by
  simp only [vV] at hr
  split at hr
  ·cases hr
  ·rename_i o ho
   split at hr
   ·cases hr
   ·rename_i c hc
    split at hr
    ·cases hr
    ·rename_i d hdst
     rw [cond_eq_ite] at hr
     split at hr
     ·rename_i hcond
      simp only [Bool.and_eq_true,Bool.not_eq_true',Option.isNone_iff_eq_none] at hcond
      obtain ⟨⟨c1,c2,c3⟩,c4,c5⟩:=hcond
      split at hr
      ·cases hr
      ·rename_i r hbld
       obtain ⟨f,rfl,rfl,rfl,hfOk,hfV,x,u,har,hx,hdx⟩:=fl_new (n:=n) hT hs.env ho hc hdst c1 c3 c5 hbld
       have hk0:=notIn_ok hF c2
       obtain ⟨g',k1,k2,k3⟩:=fl_env har hx hdx hg hk0
       refine W_fl f (W_env k1 (runW_ok hT hS hsel rest (F++[(f.j,f.d,f.t)]) (Fc++[f]) W Wc listed _ V g' h ds hr hV ⟨fun t v hv=>?_,hs.heap⟩ hd hW
        (RF.snoc hfOk hfV hF (notJ_ok hF c4) fun f' hf' h=>(hk0 f' hf').1 (by rw [h])) k3))
       obtain ⟨h1,h2⟩:=En.get_del _ _ _ hv
       obtain ⟨u',h3,h4⟩:=hs.env t v h2
       exact ⟨u',k2 t u' h3 h1,h4⟩
     ·cases hr
 | .now j::rest,F,Fc,W,Wc,listed,s,V,g,h,ds,hr,hV,hs,hd,hW,hF,hg=>by
  simp only [vV] at hr
  split at hr
  ·cases hr
  ·rename_i j' d t F'
   rw [cond_eq_ite] at hr
   split at hr
   ·rename_i hj
    have hj:j=j':=by simpa using hj
    subst hj
    split at hr
    ·cases hr
    ·rename_i v H nx hal
     obtain ⟨f,Fc',rfl,rfl,rfl,rfl,hf1,hf2,hf3,hf4,hF'⟩:=hF
     have hex:=now_ok (nx:=s.nx) hT hs.env hf2 (hg f List.mem_cons_self).1 hal
     obtain ⟨av,o,rfl,rfl,rfl,hO,hRv⟩:=hex
     refine W_now (List.mem_cons_self) (RF.all (l:=(f.j,f.d,f.t)::F') ⟨f,Fc',rfl,rfl,rfl,rfl,hf1,hf2,hf3,hf4,hF'⟩) hg
      (fun x hx y hy=>(RF.inj (l:=(f.j,f.d,f.t)::F') ⟨f,Fc',rfl,rfl,rfl,rfl,hf1,hf2,hf3,hf4,hF'⟩ x hx y hy).1)
      (fun x hx hxj=>(RF.inj (l:=(f.j,f.d,f.t)::F') ⟨f,Fc',rfl,rfl,rfl,rfl,hf1,hf2,hf3,hf4,hF'⟩ x hx f (List.mem_cons_self)).2 hxj) ?_
     rintro b ⟨w,A,hst⟩
     have hfil:(f::Fc').filter (fun x=>x.j != f.j)=Fc':=by
      rw [List.filter_cons,if_neg (by simp),List.filter_eq_self.2 (fun x hx=>by simpa using hf3 x hx)]
     rw [hfil]
     have hle:V≤V.set s.nx b 0:=Val.le_set (hs.heap.fresh s.nx (Nat.le_refl _))
     obtain ⟨_,hH⟩:=hs.heap.new (b:=b) (C:=0) (ob:=f.ob) (o:=o) ⟨w0,w,fr,hst.right⟩ (hO _ hle)
     have:=runW_ok hT hS hsel rest F' Fc' W Wc (listed.setIfInBounds f.j true) ⟨s.E.put v f.d,s.H.put o s.nx,Nat.succ s.nx,s.D⟩ (V.set s.nx b 0) ((f.d,f.vl b)::g) (pt b f.ob+h) ds hr (Val.trans hV hle)
      ⟨(hs.env.mono hle).put (hRv b) (some f.d),hH⟩ (hd.mono hle) (hW.mono hle) hF' (fun x hx=>by
       obtain ⟨m1,m2⟩:=hg x (List.mem_cons_of_mem _ hx)
       refine ⟨fun t v hv=>?_,by simp only [yQ]; rw [if_neg (fun e=>hf4 x hx e.symm)]; exact m2⟩
       simp only [yQ]
       rw [if_neg (fun e=>by subst e; have:=m1 _ _ hv; rw [(hg f List.mem_cons_self).2] at this; cases this)]; exact m1 t v hv)
     rw [yH] at this
     exact this
   ·cases hr
end
end
end Ab
namespace Ab
noncomputable section
def FOk (P:Program) (FT:Nat→Option Func):Prop:=∀ k fn,FT k=some fn→P.funcs[k]?=some fn∧Nonempty (Fun P k)
def jK (P:Program) (k:Nat) (F:jJ):Prop:=Nonempty (Fun P k)∧∀ {w0 V vs us H nx h r},RL V vs us→RH P V H nx h→F vs H nx=some r→Spec P w0 k us h fun u h'=>∃ V',V≤V'∧R V' r.1 u∧RH P V' r.2.1 r.2.2 h'
def SOk (P:Program) (SM:T jJ):Prop:=∀ k F,SM.get k=some F→jK P k F
section
variable {P:Program} {TT:Nat→Option TI} {FT:Nat→Option Func} {SM:T jJ} {w0:World} {fr:Hp} {rec:Tk→Rs} {n:Nat} {ops:Array Oper}
theorem X_env {c:Code} {Q:vA} {ds:List Deferred} {g g':Env} {L:Hp} (s:Sub g g') (h:vD P n w0 c Q ds g' L):vD P n w0 c Q ds g L:=fun a w ha hd hw=>h a w (ha.sub s) hd hw
theorem delF_get {E:En}:∀ {l:List (Nat × Nat × Nat)} {F:List Flt} {t:Nat} {v:AV},RF P ops n l F→(delF E l).get t=some v→E.get t=some v∧∀ f∈F,f.d≠t
 | [],F,t,v,h,hg=>by have:F=[]:=h; subst this; exact ⟨hg,fun f hf=>by cases hf⟩
 | (j,d,t')::l,F,t,v,h,hg=>by
  obtain ⟨f1,F',rfl,rfl,rfl,_,_,_,hj,hd,h2⟩:=h
  simp only [delF] at hg
  obtain ⟨h3,h4⟩:=En.get_del _ _ _ hg
  obtain ⟨h5,h6⟩:=delF_get h2 h4
  refine ⟨h5,fun f hf=>?_⟩
  rcases List.mem_cons.1 hf with rfl|hf
  ·exact fun e=>h3 e.symm
  ·exact h6 f hf
theorem fltZ_ok :∀ {l:List (Nat × Nat × Nat)},fltZ TT l=true→∀ p∈l,p.2.2 % 2=1∨∃ z,zerT TT (p.2.2 / 2)=some z
 | [],_,p,hp=>by cases hp
 | (j,d,c)::l,h,p,hp=>by
  simp only [fltZ,cond_eq_ite,Nat.beq_eq] at h
  split at h
  ·rename_i hc
   rcases List.mem_cons.1 hp with rfl|hp
   ·exact .inl hc
   ·exact fltZ_ok h p hp
  ·split at h
   ·cases h
   ·rename_i z hz
    rcases List.mem_cons.1 hp with rfl|hp
    ·exact .inr ⟨z,hz⟩
    ·exact fltZ_ok h p hp
theorem resA_ok (hT:TOk P TT) {V:Val} {E:En} {g:Env} {H:T AO} {nx:Nat} {h:Hp} (hE:RE V E g) (hH:RH P V H nx h):∀ {rs:List ResultVar} {l:List AV},resA TT E H rs=some l→∃ us,ResOk P w0 g (h+fr) rs us∧RL V l us
 | [],l,hr=>by simp only [resA,Option.some.injEq] at hr; subst hr; exact ⟨[],trivial,RL.nil.2 O⟩
 | .tmp t::rs,l,hr=>by
  simp only [resA] at hr
  split at hr
  ·cases hr
  ·rename_i v hv
   split at hr
   ·cases hr
   ·rename_i l' hl
    simp only [Option.some.injEq] at hr; subst hr
    obtain ⟨u,h1,h2⟩:=hE t v hv
    obtain ⟨us,h3,h4⟩:=resA_ok hT hE hH hl
    exact ⟨u::us,⟨h1,h3⟩,RL.mk h2 h4⟩
 | .cell b t::rs,l,hr=>by
  simp only [resA] at hr
  split at hr
  ·rename_i id off hb
   split at hr
   ·cases hr
   ·rename_i v hv
    split at hr
    ·cases hr
    ·rename_i l' hl
     simp only [Option.some.injEq] at hr; subst hr
     obtain ⟨u,h1,h2⟩:=hE b _ hb
     obtain ⟨bb,c,h5,rfl⟩:=R.mkNil h2
     obtain ⟨b',C,u',hV,hL,hR⟩:=loadA_ok (P:=P) (w0:=w0) (fr:=fr) hT hH hv
     rw [h5] at hV
     simp only [Option.some.injEq,Prod.mk.injEq] at hV
     obtain ⟨rfl,rfl⟩:=hV
     obtain ⟨us,h3,h4⟩:=resA_ok hT hE hH hl
     exact ⟨u'::us,⟨⟨_,h1,hL⟩,h3⟩,RL.mk hR h4⟩
  ·cases hr
theorem oneA_ok {V:Val}:∀ {l:List AV} {us:List Value},RL V l us→R V (oneA l) (oneV us)
 | [],us,h=>by rw [RL.nil.1 h]; unfold oneA oneV R; exact ⟨[],RL.nil.2 O,rfl⟩
 | [a],us,h=>by
  obtain ⟨u,us',rfl,h1,h2⟩:=RL.cons.1 h
  rw [RL.nil.1 h2]; exact h1
 | a::b::l,us,h=>by
  obtain ⟨u,us',rfl,h1,h2⟩:=RL.cons.1 h
  obtain ⟨v,us2,rfl,h3,h4⟩:=RL.cons.1 h2
  unfold oneA oneV R; exact ⟨_,h,rfl⟩
theorem argsT_get :∀ (l:List AV) (E:En) (k t:Nat) (v:AV),(uJ l E k).get t=some v→(k≤t∧l[t - k]?=some v)∨E.get t=some v
 | [],E,k,t,v,h=>.inr h
 | a::l,E,k,t,v,h=>by
  simp only [uJ] at h
  rcases argsT_get l _ _ t v h with ⟨h1,h2⟩|h1
  ·have h1:k+1≤t:=h1
   have h2:l[t - (k+1)]?=some v:=h2
   exact .inl ⟨by omega,by rw [show t - k=(t - (k+1))+1 by omega]; simpa using h2⟩
  ·rw [En.get_put] at h1
   split at h1
   ·rename_i e
    subst e
    exact .inl ⟨Nat.le_refl _,by simpa using h1⟩
   ·exact .inr h1
theorem look_argE' :∀ (l:List Value) (k i:Nat),yQ (argE k l) (k+i)=l[i]?
 | [],k,i=>by simp [argE,yQ]
 | v::l,k,0=>by simp [argE,yQ]
 | v::l,k,i+1=>by
  simp only [argE,yQ]
  rw [if_neg (by omega),show k+(i+1)=(k+1)+i by omega,look_argE' l (k+1) i]; rfl
theorem args_RE {V:Val} {vs:List AV} {us:List Value} (h:RL V vs us):RE V (uJ vs .e 0) (argE 0 us):=fun t v hv=>by
 rcases argsT_get vs .e 0 t v hv with ⟨_,h2⟩|h2
 ·obtain ⟨u,h3,h4⟩:=h.get h2
  refine ⟨u,?_,h4⟩
  have:=look_argE' us 0 t
  rw [Nat.zero_add] at this
  rw [this]; simpa using h3
 ·cases h2
theorem ends_ok (hT:TOk P TT) (hS:Snd P rec) {V0:Val} {E:En} {H':T AO} {nx':Nat} {rs:List ResultVar} {l:List AV} (hres:resA TT E H' rs=some l):∀ {D:List (Nat × List AV × List AV)} {V:Val} {H:T AO} {nx:Nat} {ds:List Deferred} {g:Env} {h:Hp},
  runD rec D H nx=some (H',nx')→V0≤V→RDs [] V D ds→RE V E g→RH P V H nx h→Ends P w0 rs fr (fun u h'=>∃ V',V0≤V'∧R V' (oneA l) u∧RH P V' H' nx' h') ds g (h+fr)
 | [],V,H,nx,ds,g,h,hr,hV,hd,hE,hH=>by
  simp only [runD,Option.some.injEq,Prod.mk.injEq] at hr
  obtain ⟨rfl,rfl⟩:=hr
  have:ds=[]:=hd
  subst this
  obtain ⟨us,h1,h2⟩:=resA_ok (P:=P) (w0:=w0) (fr:=fr) hT hE hH hres
  exact .done h1 ⟨V,hV,oneA_ok h2,hH⟩ (zW _).symm
 | (k,cap,vs)::D,V,H,nx,ds,g,h,hr,hV,hd,hE,hH=>by
  simp only [runD] at hr
  split at hr
  ·rename_i v H2 nx2 hcall
   obtain ⟨cs,us,ds',rfl,h1,h2,h3⟩:=hd
   obtain ⟨h4,h5⟩:=hS.dfn hcall
   refine .call h4 (h5 (w0:=w0) (h2.append h1) hH) O ?_
   rintro u h2' ⟨V',hle,_,hH'⟩
   exact ends_ok hT hS hres hr (Val.trans hV hle) (h3.mono hle) (hE.mono hle) hH'
  ·cases hr
theorem specD_of_holdX {f:FuncId} {fn:Func} {c:Code} {args:List Value} {rs:List ResultVar} {pre:Hp} {post:Value→Hp→Prop}
  (hf:P.funcs[f]?=some fn) (hb:fn.body=some c) (hn:fn.ntmps=n) (hr:fn.results=rs.toArray) (hle:args.length≤n)
  (h:∀ fr,vD P n w0 c (fun ds e g L=>(e=.normal∨e=.ret)∧ds=[]∧∃ vs h R,ResOk P w0 g L rs vs∧post (oneV vs) h∧L=h+fr+R) [] (argE 0 args) (pre+fr)):SpecD P w0 f args pre post:=by
 intro u w fr hst
 refine callsD_of_wp (R:=fun e w'=>∃ v h,e=.returned v∧post v h∧St w0 w' (h+fr)) hf hb (Code.wp_mono ?_ (h fr { tmps:=args.toArray++Array.replicate (fn.ntmps - args.toArray.size) undef,defers:=[] } w (args_fit hn hle) O hst))
 rintro e a' w' ⟨g,L,⟨he,hds,vs,h',R,h1,h2,rfl⟩,ha',hw'⟩
 rcases he with rfl|rfl
 ·exact ⟨hds,_,vW ha' hw' fn rs hr h1,_,h',rfl,h2,hw'.left⟩
 ·exact ⟨hds,_,vW ha' hw' fn rs hr h1,_,h',rfl,h2,hw'.left⟩
theorem step_snd (hm:P.follows .mixedOrders=true) (hT:TOk P TT) (hF:FOk P FT) (hM:SOk P SM) (hS:Snd P rec):Snd P (uB TT FT SM rec) where
 code:=by
  intro n c s e s' hr w0 V0 V g h fr ds B hV hs hd
  cases c with
  | skip =>
   simp only [uB,Rs.ok.injEq] at hr
   obtain ⟨rfl,rfl⟩:=hr
   exact X_skip ⟨rfl,V,h,hV,rfl,hs,hd⟩
  | region id ops draw =>
   cases draw with
   | false=>exact X_region (runL_ok hT hS ops.toList s V g h ds hr hV hs hd)
   | true =>
    simp only [uB] at hr
    split at hr
    ·cases hr
    ·rename_i F it hp
     split at hr
     ·cases hr
     ·rename_i fl hfl
      rw [cond_eq_ite] at hr
      split at hr
      ·rename_i hz
       obtain ⟨hlen,hsel,hok⟩:=planOf_ok hp
       obtain ⟨Fc,hRF,hFc,hFar⟩:=fltOf_ok (P:=P) hT hfl (fltZ_ok hz)
       refine X_env (g':=g.filter fun p=>!(Fc.any fun f=>f.d==p.1)) (fun t v hv=>(vH hv).1) ?_
       refine X_draw Fc it hm hlen (by rw [hFc]; exact hok) ?_
       refine runW_ok hT hS hsel it fl Fc [] [] _ _ V _ h ds hr hV ⟨fun t v hv=>?_,hs.heap⟩ hd O hRF fun f hf=>⟨fun t v hv=>(by rw [hFar f hf] at hv; cases hv),?_⟩
       ·obtain ⟨h1,h2⟩:=delF_get hRF hv
        obtain ⟨u,h3,h4⟩:=hs.env t v h1
        exact ⟨u,look_filter h3 h2,h4⟩
       ·cases hl:yQ (g.filter fun p=>!(Fc.any fun f=>f.d==p.1)) f.d with
        | none=>rfl
        | some v=>exact absurd O ((vH hl).2 f hf)
      ·cases hr
  | seq a b =>
   simp only [uB] at hr
   split at hr
   ·rename_i s1 h1
    refine X_seq (wZ ?_ (hS.code h1 (w0:=w0) (fr:=fr) hV hs hd))
    rintro ds1 ex g1 L1 ⟨rfl,V1,h1',hle,rfl,hs1,hd1⟩
    exact hS.code hr (w0:=w0) (fr:=fr) hle hs1 hd1
   ·rename_i hne
    refine X_seq (wZ ?_ (hS.code hr (w0:=w0) (fr:=fr) hV hs hd))
    rintro ds1 ex g1 L1 ⟨rfl,V1,h1',hle,rfl,hs1,hd1⟩
    cases e with
    | normal=>exact absurd hr (hne s')
    | exit k=>exact ⟨rfl,V1,h1',hle,rfl,hs1,hd1⟩
    | ret=>exact ⟨rfl,V1,h1',hle,rfl,hs1,hd1⟩
  | cond x a b =>
   simp only [uB] at hr
   split at hr
   ·rename_i hx
    obtain ⟨u,h1,h2⟩:=yI hs.env hx
    unfold R at h2; subst h2
    exact X_cond h1 (hS.code hr (w0:=w0) (fr:=fr) hV hs hd)
   ·rename_i hx
    obtain ⟨u,h1,h2⟩:=yI hs.env hx
    unfold R at h2; subst h2
    exact X_cond h1 (hS.code hr (w0:=w0) (fr:=fr) hV hs hd)
   ·cases hr
  | block id b =>
   simp only [uB] at hr
   split at hr
   ·rename_i k s1 h1
    refine X_block (wZ ?_ (hS.code h1 (w0:=w0) (fr:=fr) hV hs hd))
    rintro ds1 ex g1 L1 ⟨rfl,V1,h1',hle,rfl,hs1,hd1⟩
    rw [cond_eq_ite] at hr
    split at hr
    ·rename_i hk
     simp only [Rs.ok.injEq] at hr
     obtain ⟨rfl,rfl⟩:=hr
     have hk:k=id:=by simpa using hk
     exact ite_yes (c:=k=id) hk ⟨rfl,V1,h1',hle,rfl,hs1,hd1⟩
    ·rename_i hk
     simp only [Rs.ok.injEq] at hr
     obtain ⟨rfl,rfl⟩:=hr
     have hk:¬ k=id:=by simpa using hk
     exact ite_no (c:=k=id) hk ⟨rfl,V1,h1',hle,rfl,hs1,hd1⟩
   ·rename_i hne
    refine X_block (wZ ?_ (hS.code hr (w0:=w0) (fr:=fr) hV hs hd))
    rintro ds1 ex g1 L1 ⟨rfl,V1,h1',hle,rfl,hs1,hd1⟩
    cases e with
    | exit k=>exact absurd hr (hne k s')
    | normal=>exact ⟨rfl,V1,h1',hle,rfl,hs1,hd1⟩
    | ret=>exact ⟨rfl,V1,h1',hle,rfl,hs1,hd1⟩
  | loop b =>
   simp only [uB] at hr
   generalize 1099511627776=m at hr
   refine X_loop (fun m ds g L=>∃ s1 V1 h1,loopR rec n b m s1=.ok e s'∧V0≤V1∧L=h1+fr∧RS P V1 s1 g h1∧RDs B V1 s1.D ds) m ⟨s,V,h,hr,hV,rfl,hs,hd⟩ ?_
   rintro m ds g L ⟨s1,V1,h1,hr,hV1,rfl,hs1,hd1⟩
   cases m with
   | zero=>simp [loopR] at hr
   | succ m =>
    simp only [loopR] at hr
    split at hr
    ·rename_i s2 h2
     refine wZ ?_ (hS.code h2 (w0:=w0) (fr:=fr) hV1 hs1 hd1)
     rintro ds2 ex g2 L2 ⟨rfl,V2,h2',hle,rfl,hs2,hd2⟩
     exact ⟨m,Nat.lt_succ_self m,s2,V2,h2',hr,hle,rfl,hs2,hd2⟩
    ·rename_i hne
     refine wZ ?_ (hS.code hr (w0:=w0) (fr:=fr) hV1 hs1 hd1)
     rintro ds2 ex g2 L2 ⟨rfl,V2,h2',hle,rfl,hs2,hd2⟩
     cases e with
     | normal=>exact absurd hr (hne s')
     | exit k=>exact ⟨rfl,V2,h2',hle,rfl,hs2,hd2⟩
     | ret=>exact ⟨rfl,V2,h2',hle,rfl,hs2,hd2⟩
  | exit k =>
   simp only [uB,Rs.ok.injEq] at hr
   obtain ⟨rfl,rfl⟩:=hr
   exact X_exit ⟨rfl,V,h,hV,rfl,hs,hd⟩
  | ret =>
   simp only [uB,Rs.ok.injEq] at hr
   obtain ⟨rfl,rfl⟩:=hr
   exact X_ret ⟨rfl,V,h,hV,rfl,hs,hd⟩
  | label l =>
   simp only [uB,Rs.ok.injEq] at hr
   obtain ⟨rfl,rfl⟩:=hr
   exact X_label ⟨rfl,V,h,hV,rfl,hs,hd⟩
  | _=>simp [uB] at hr
 fn:=by
  intro k vs H nx v H' nx' hr
  simp only [uB] at hr
  split at hr
  ·rename_i F hF'
   obtain ⟨h1,h2⟩:=hM k F hF'
   split at hr
   ·rename_i v2 H2 nx2 hsum
    simp only [Rs.val.injEq] at hr
    obtain ⟨rfl,rfl,rfl⟩:=hr
    exact ⟨h1,fun hvs hH=>h2 hvs hH hsum⟩
   ·cases hr
  ·split at hr
   ·cases hr
   ·rename_i fn hfn
    obtain ⟨hk,hfun⟩:=hF k fn hfn
    split at hr
    ·cases hr
    ·rename_i c hb
     rw [cond_eq_ite] at hr
     split at hr
     ·rename_i hlen
      have hlen:vs.length≤fn.ntmps:=Nat.le_of_ble_eq_true hlen
      refine ⟨hfun,fun {w0 V us h} hvs hH=>?_⟩
      have key:∀ {ex:Ex} {s:S},rec (.code fn.ntmps c ⟨uJ vs .e 0,H,nx,[]⟩)=.ok ex s→(ex=.normal∨ex=.ret)→(match runD rec s.D s.H s.nx with|none=>Rs.bad 26|some (H',nx')=>match resA TT s.E H' fn.results.toList with|none=>.bad 27|some l=>.val (oneA l) H' nx')=.val v H' nx' →
        Spec P w0 k us h fun u h'=>∃ V',V≤V'∧R V' v u∧RH P V' H' nx' h':=by
       intro ex s hrec hex hr
       split at hr
       ·cases hr
       ·rename_i H2 nx2 hD
        split at hr
        ·cases hr
        ·rename_i l hres
         simp only [Rs.val.injEq] at hr
         obtain ⟨rfl,rfl,rfl⟩:=hr
         refine spec_of_holdX hk hb O (rs:=fn.results.toList) (by simp) (by rw [hvs.length]; exact hlen) fun fr=>?_
         refine wZ ?_ (hS.code hrec (w0:=w0) (fr:=fr) (Val.refl V) ⟨args_RE hvs,hH⟩ rfl)
         rintro ds1 ex1 g1 L1 ⟨rfl,V1,h1',hle,rfl,hs1,hd1⟩
         have hends:=ends_ok (w0:=w0) (fr:=fr) (V0:=V) hT hS hres hD hle hd1 hs1.env hs1.heap
         rcases hex with rfl|rfl
         ·exact hends
         ·exact hends
      split at hr
      ·cases hr
      ·rename_i ex s hne hrec
       refine key hrec ?_ hr
       cases ex with
       | normal=>exact .inl O
       | ret=>exact .inr O
       | exit k=>exact absurd hne (by simp)
      ·cases hr
      ·cases hr
     ·cases hr
 dfn:=by
  intro k vs H nx v H' nx' hr
  simp only [uB] at hr
  split at hr
  ·cases hr
  ·rename_i fn hfn
   obtain ⟨hk,hfun⟩:=hF k fn hfn
   split at hr
   ·cases hr
   ·rename_i c hb
    rw [cond_eq_ite] at hr
    split at hr
    ·rename_i hlen
     have hlen:vs.length≤fn.ntmps:=Nat.le_of_ble_eq_true hlen
     refine ⟨hfun,fun {w0 V us h} hvs hH=>?_⟩
     have key:∀ {ex:Ex} {s:S},rec (.code fn.ntmps c ⟨uJ vs .e 0,H,nx,[]⟩)=.ok ex s→(ex=.normal∨ex=.ret)→(match s.D with|[]=>(match resA TT s.E s.H fn.results.toList with|none=>Rs.bad 31|some l=>.val (oneA l) s.H s.nx)|_=>.bad 32)=.val v H' nx' →
       SpecD P w0 k us h fun u h'=>∃ V',V≤V'∧R V' v u∧RH P V' H' nx' h':=by
      intro ex s hrec hex hr
      split at hr
      ·rename_i hD
       split at hr
       ·cases hr
       ·rename_i l hres
        simp only [Rs.val.injEq] at hr
        obtain ⟨rfl,rfl,rfl⟩:=hr
        refine specD_of_holdX hk hb O (rs:=fn.results.toList) (by simp) (by rw [hvs.length]; exact hlen) fun fr=>?_
        refine wZ ?_ (hS.code hrec (w0:=w0) (fr:=fr) (Val.refl V) ⟨args_RE hvs,hH⟩ rfl)
        rintro ds1 ex1 g1 L1 ⟨rfl,V1,h1',hle,rfl,hs1,hd1⟩
        rw [hD] at hd1
        obtain ⟨us2,r1,r2⟩:=resA_ok (P:=P) (w0:=w0) (fr:=fr) hT hs1.env hs1.heap hres
        refine ⟨by rcases hex with rfl|rfl; exact .inl O; exact .inr O,hd1,us2,h1',0,r1,⟨V1,hle,oneA_ok r2,hs1.heap⟩,(zW _).symm⟩
      ·cases hr
     split at hr
     ·cases hr
     ·rename_i ex s hne hrec
      refine key hrec ?_ hr
      cases ex with
      | normal=>exact .inl O
      | ret=>exact .inr O
      | exit k=>exact absurd hne (by simp)
     ·cases hr
     ·cases hr
    ·cases hr
end
end
end Ab
namespace Ab
noncomputable section
theorem exec_snd {P:Program} {TT:Nat→Option TI} {FT:Nat→Option Func} {SM:T jJ} (hm:P.follows .mixedOrders=true) (hT:TOk P TT) (hF:FOk P FT) (hM:SOk P SM):∀ f,Snd P (exec TT FT SM f)
 | 0=>⟨fun h=>(by cases h),fun h=>(by cases h),fun h=>(by cases h)⟩
 | f+1=>step_snd hm hT hF hM (exec_snd hm hT hF hM f)
theorem RH.none (P:Program):RH P (fun _=>none) .e 0 0:=⟨fun _ _=>rfl,fun id o h=>(by rw [T.get_e] at h; cases h),fun id id' o o' b C C' h=>(by rw [T.get_e] at h; cases h)⟩
def saysTrue :Rs→Bool
 | .val (.b true) _ _=>true
 | _=>false
theorem exec_true {P:Program} {TT:Nat→Option TI} {FT:Nat→Option Func} {SM:T jJ} (hm:P.follows .mixedOrders=true) (hT:TOk P TT) (hF:FOk P FT) (hM:SOk P SM) {f k:Nat} (h:saysTrue (exec TT FT SM f (.fn k [] .e 0))=true) (w0:World) :
  Spec P w0 k [] 0 fun v _=>v=.bool true:=by
 unfold saysTrue at h
 split at h
 ·rename_i H nx hr
  have:=((exec_snd hm hT hF hM f).fn hr).2 (w0:=w0) (V:=fun _=>none) (us:=[]) (h:=0) (RL.nil.2 O) (RH.none P)
  intro w fr hst
  refine Calls.mono (this w fr hst) ?_
  rintro e w' ⟨v,h',rfl,⟨V',_,hR,_⟩,hst'⟩
  unfold R at hR
  exact ⟨v,h',rfl,hR,hst'⟩
 ·cases h
def tiOf (P:Program) (t:Nat):Option TI:=match P.info? t with
 | none=>none
 | some i=>match P.underlying t with
  | none=>none
  | some d=>match i.zero with
   | none=>none
   | some z=>bif (z.cells.size==i.size&&z.cells.toList.all (·.oneCell')) then some ⟨d,i.size,i.bytes,conv 20 z,!P.stoodInHeld t&&!P.eqGuardType P.depth t⟩ else none
theorem tiOf_ok (P:Program):TOk P (tiOf P):=by
 intro t i h
 unfold tiOf at h
 split at h
 ·cases h
 ·rename_i info hi
  split at h
  ·cases h
  ·rename_i d hd
   split at h
   ·cases h
   ·rename_i z hz
    rw [cond_eq_ite] at h
    split at h
    ·rename_i hc
     simp only [Bool.and_eq_true,beq_iff_eq] at hc
     simp only [Option.some.injEq] at h; subst h
     refine ⟨hd,⟨info,z,hi,rfl,rfl,hz,hc.1,fun u hu=>List.all_eq_true.1 hc.2 u hu,fun V a ha=>conv_sound 20 ha⟩,fun hf=>?_⟩
     simp only [Bool.and_eq_true,Bool.not_eq_true'] at hf
     exact hf
    ·cases h
def fnOf (P:Program) (k:Nat):Option Func:=match P.funcs[k]? with
 | none=>none
 | some fn=>bif (fn.name == "runtime.NumGoroutine" || fn.body.isNone) then none else some fn
theorem fnOf_ok (P:Program):FOk P (fnOf P):=by
 intro k fn h
 unfold fnOf at h
 split at h
 ·cases h
 ·rename_i fn' hf
  rw [cond_eq_ite] at h
  split at h
  ·cases h
  ·rename_i hc
   simp only [Option.some.injEq] at h; subst h
   simp only [Bool.or_eq_true,not_or,Bool.not_eq_true] at hc
   exact ⟨hf,⟨⟨_,hf,hc.1,hc.2⟩⟩⟩
section
variable {α:Type}
def mkTr (l:List α):Nat→T α→T α:=List.rec (motive:=fun _=>Nat→T α→T α) (fun _ t=>t) (fun x _ ih k t=>ih (Nat.succ k) (t.put x k)) l
theorem mkTr_get :∀ (l:List α) (k:Nat) (t:T α) (j:Nat),(mkTr l k t).get j=if k≤j∧j<k+l.length then l[j - k]? else t.get j
 | [],k,t,j=>by rw [if_neg (by simp)]; rfl
 | x::l,k,t,j=>by
  show (mkTr l (k+1) (t.put x k)).get j=_
  rw [mkTr_get l,T.get_put]
  simp only [List.length_cons]
  by_cases h:k+1≤j∧j<k+1+l.length
  ·rw [if_pos h,if_pos (by omega),show j - k=(j - (k+1))+1 by omega,List.getElem?_cons_succ]
  ·rw [if_neg h]
   by_cases hj:j=k
   ·subst hj; rw [if_pos rfl,if_pos (by omega)]; simp
   ·rw [if_neg hj,if_neg (by omega)]
theorem mkTr_some {l:List α} {j:Nat} {x:α} (h:(mkTr l 0 .e).get j=some x):l[j]?=some x:=by
 rw [mkTr_get] at h
 split at h
 ·exact h
 ·rw [T.get_e] at h; cases h
end
def tyT (P:Program):T TypeInfo:=mkTr P.types.toList 0 .e
theorem tyT_ok {P:Program} {t:Nat} {i:TypeInfo} (h:(tyT P).get t=some i):P.info? t=some i:=by
 have h1:=mkTr_some h
 have h2:P.types[t]?=some i:=by simpa using h1
 have h3:t<P.types.size:=(Array.getElem?_eq_some_iff.1 h2).1
 show Tables.info? P.toTables t=some i
 unfold Tables.info?
 rw [if_pos h3]; exact h2
def undI (P:Program) (i:TypeInfo):Option TypeDesc:=match i.desc with
 | .named _ u=>(match (tyT P).get u with
  | some j=>some j.desc
  | none=>none)
 | d=>some d
theorem undI_ok {P:Program} {t:Nat} {i:TypeInfo} {d:TypeDesc} (hi:P.info? t=some i) (h:undI P i=some d):P.underlying t=some d:=by
 unfold undI at h
 unfold Program.underlying
 split at h
 ·rename_i n u hd
  split at h
  ·rename_i j hj
   simp only [Option.some.injEq] at h; subst h
   have hj:=tyT_ok hj
   obtain ⟨desc,_⟩:=i
   simp only at hd; subst hd
   simp only [hi,hj,Option.map_some]
  ·cases h
 ·rename_i hne
  simp only [Option.some.injEq] at h; subst h
  obtain ⟨desc,_⟩:=i
  rw [hi]
  cases desc<;>first|rfl|exact absurd rfl (hne _ _)
def tiT (P:Program) (t:Nat):Option TI:=match (tyT P).get t with
 | none=>none
 | some i=>match undI P i with
  | none=>none
  | some d=>match i.zero with
   | none=>none
   | some z=>bif (z.cells.size==i.size&&z.cells.toList.all (·.oneCell')) then some ⟨d,i.size,i.bytes,conv 20 z,!P.stoodInHeld t&&!P.eqGuardType P.depth t⟩ else none
theorem tiT_ok (P:Program):TOk P (tiT P):=by
 intro t i h
 unfold tiT at h
 split at h
 ·cases h
 ·rename_i info hi
  have hi:=tyT_ok hi
  split at h
  ·cases h
  ·rename_i d hd
   have hd:=undI_ok hi hd
   split at h
   ·cases h
   ·rename_i z hz
    rw [cond_eq_ite] at h
    split at h
    ·rename_i hc
     simp only [Bool.and_eq_true,beq_iff_eq] at hc
     simp only [Option.some.injEq] at h; subst h
     refine ⟨hd,⟨info,z,hi,rfl,rfl,hz,hc.1,fun u hu=>List.all_eq_true.1 hc.2 u hu,fun V a ha=>conv_sound 20 ha⟩,fun hf=>?_⟩
     simp only [Bool.and_eq_true,Bool.not_eq_true'] at hf
     exact hf
    ·cases h
def fnTr (P:Program):T Func:=mkTr P.funcs.toList 0 .e
def fnT (P:Program) (k:Nat):Option Func:=match (fnTr P).get k with
 | none=>none
 | some fn=>bif (fn.name == "runtime.NumGoroutine" || fn.body.isNone) then none else some fn
theorem fnT_ok (P:Program):FOk P (fnT P):=by
 intro k fn h
 unfold fnT at h
 split at h
 ·cases h
 ·rename_i fn' hf
  have hf:P.funcs[k]?=some fn':=by simpa using mkTr_some hf
  rw [cond_eq_ite] at h
  split at h
  ·cases h
  ·rename_i hc
   simp only [Option.some.injEq] at h; subst h
   simp only [Bool.or_eq_true,not_or,Bool.not_eq_true] at hc
   exact ⟨hf,⟨⟨_,hf,hc.1,hc.2⟩⟩⟩
theorem no_summ (P:Program):SOk P .e:=fun k F h=>by rw [T.get_e] at h; cases h
end
end Ab
namespace Ab
noncomputable section
abbrev SL :=List (Nat × AV)
def sgetF (t:Nat) (p:Nat × AV) (_:SL) (ih:Option AV):Option AV:=Bool.rec (motive:=fun _=>Option AV) ih (some p.2) (Nat.beq p.1 t)
def sget (l:SL) (t:Nat):Option AV:=List.rec (motive:=fun _=>Option AV) none (sgetF t) l
def sdelF (t:Nat) (p:Nat × AV) (_:SL) (ih:SL):SL:=Bool.rec (motive:=fun _=>SL) (p::ih) ih (Nat.beq p.1 t)
def sdel (l:SL) (t:Nat):SL:=List.rec (motive:=fun _=>SL) [] (sdelF t) l
def sput (v:AV) (t:Nat) (l:SL):SL:=(t,v)::sdel l t
theorem sget_cons (p:Nat × AV) (l:SL) (t:Nat):sget (p::l) t=if p.1=t then some p.2 else sget l t:=by
 show Bool.rec (motive:=fun _=>Option AV) (sget l t) (some p.2) (Nat.beq p.1 t)=_
 by_cases h:p.1=t
 ·rw [if_pos h,show Nat.beq p.1 t=true from by rw [Nat.beq_eq]; exact h]
 ·rw [if_neg h,Bool.eq_false_iff.2 (fun e=>h (Nat.eq_of_beq_eq_true e))]
theorem sdel_cons (p:Nat × AV) (l:SL) (t:Nat):sdel (p::l) t=if p.1=t then sdel l t else p::sdel l t:=by
 show Bool.rec (motive:=fun _=>SL) (p::sdel l t) (sdel l t) (Nat.beq p.1 t)=_
 by_cases h:p.1=t
 ·rw [if_pos h,show Nat.beq p.1 t=true from by rw [Nat.beq_eq]; exact h]
 ·rw [if_neg h,Bool.eq_false_iff.2 (fun e=>h (Nat.eq_of_beq_eq_true e))]
theorem sget_del (t j:Nat) (h:j≠t):∀ l:SL,sget (sdel l t) j=sget l j
 | []=>rfl
 | p::l=>by
  rw [sdel_cons]
  split
  ·rename_i e; rw [sget_del t j h l,sget_cons,if_neg (by rw [e]; exact fun e=>h e.symm)]
  ·rw [sget_cons,sget_cons,sget_del t j h l]
theorem sget_put (v:AV) (t j:Nat) (l:SL):sget (sput v t l) j=if j=t then some v else sget l j:=by
 unfold sput
 rw [sget_cons]
 by_cases h:j=t
 ·rw [if_pos h,if_pos (show t=j from h.symm)]
 ·rw [if_neg h,if_neg (show ¬ t=j from fun e=>h e.symm),sget_del t j h]
def yS (E:Nat) (S:SL):En:=fun t=>bif Nat.beq (yO (yT E (yG t))) 255 then sget S t else dec (yT E (yG t))
theorem view_eq (E:Nat) (S:SL) (t:Nat):(yS E S).get t=if yO (yT E (yG t))=255 then sget S t else dec (yT E (yG t)):=by
 show (bif Nat.beq (yO (yT E (yG t))) 255 then sget S t else dec (yT E (yG t)))=_
 simp only [cond_eq_ite,Nat.beq_eq]
theorem vM {E:Nat} {S:SL} {d:Nat} {v:AV} {x:Nat} (h:WR x v):yS (vP E (yG d) x) S=(yS E S).put v d:=by
 obtain ⟨h1,h2,h3⟩:=h
 funext t
 unfold yS En.put
 simp only [slot_put E d t h3,cond_eq_ite,Nat.beq_eq]
 by_cases h:t=d
 ·subst h; simp [h1,h2]
 ·simp [h]
theorem view_big {E:Nat} {S:SL} {d:Nat} {v:AV}:yS (vP E (yG d) 255) (sput v d S)=(yS E S).put v d:=by
 funext t
 unfold yS En.put
 simp only [slot_put E d t (show 255<2 ^ 128 by decide),cond_eq_ite,Nat.beq_eq,sget_put]
 by_cases h:t=d
 ·subst h; simp [yO]
 ·simp [h]
theorem view_del {E:Nat} {S:SL} {d:Nat}:yS (vP E (yG d) 0) S=(yS E S).del d:=by
 funext t
 unfold yS En.del
 simp only [slot_put E d t (show 0<2 ^ 128 by decide),cond_eq_ite,Nat.beq_eq]
 by_cases h:t=d
 ·subst h; rw [if_pos rfl,if_pos rfl,if_neg (by decide)]; rfl
 ·simp [h]
theorem view_zero :yS 0 []=En.e:=by
 funext t
 unfold yS
 rw [slot_zero]; rfl
theorem view_get {E:Nat} {S:SL} {t:Nat} (h:xI (yT E (yG t))=true):(yS E S).get t=dec (yT E (yG t)):=by
 obtain ⟨h1,h2⟩:=tagOK_iff.1 h
 rw [view_eq,if_neg (by omega)]
structure Wn1 where
 mk ::
 run:Nat→Nat
def gS (s:Nat) (E:Nat):Nat:=yT E s
def gC (w:Nat) (_:Nat):Nat:=w
def encO (o:Option AV):Nat:=Option.rec (motive:=fun _=>Nat) 0 enc o
def gW :Operand→Wn1
 | .tmp t=>.mk (gS (yG t))
 | .const v=>.mk (gC (encO (conv 20 v)))
 | _=>.mk (gC 0)
theorem encO_ok {o:Option AV} (h:xI (encO o)=true):∃ v,o=some v∧WR (encO o) v:=by
 cases o with
 | none=>cases h
 | some v =>
  refine ⟨v,rfl,?_⟩
  rcases enc_wr v with e|hw
  ·exfalso
   have e:encO (some v)=255:=e
   rw [e] at h; cases h
  ·exact hw
theorem gW_ok {x:Operand} {E:Nat} {S:SL} (h:xI ((gW x).run E)=true):∃ v,yV (yS E S) x=some v∧WR ((gW x).run E) v:=by
 cases x with
 | tmp t =>
  obtain ⟨v,h1,h2⟩:=tagOK_dec h
  exact ⟨v,(view_get h).trans h1,h2,h1,slot_lt _ _⟩
 | const v =>
  obtain ⟨u,h1,h2⟩:=encO_ok h
  exact ⟨u,h1,h2⟩
 | _=>exact absurd h (show ¬ xI 0=true by decide)
theorem gW_dec {x:Operand} {E:Nat} {S:SL} {v:AV} {t:Nat} (ht:yO ((gW x).run E)=t) (h1:1≤t) (h2:t≤64) (hd:dec ((gW x).run E)=some v):yV (yS E S) x=some v:=by
 obtain ⟨u,e,_,hu,_⟩:=gW_ok (x:=x) (E:=E) (S:=S) (tagOK_iff.2 (by omega))
 rw [hd] at hu
 simp only [Option.some.injEq] at hu
 rw [e,hu]
theorem dec_int {w:Nat} {k:IntKind} (h:yO w=kc k):dec w=some (.i k (iw w)):=by
 unfold dec; rw [h]; cases k<;>rfl
theorem dec_ptr {w:Nat} (h:yO w=10):dec w=some (.p (f0 w) (f1 w)):=by unfold dec; rw [h]; rfl
theorem dec_sl {w:Nat} (h:yO w=11):dec w=some (.sl (f0 w) (f1 w) (f2 w) (f3 w) false):=by unfold dec; rw [h]; rfl
theorem dec_slk {w:Nat} (h:yO w=12):dec w=some (.sl (f0 w) (f1 w) (f2 w) (f3 w) true):=by unfold dec; rw [h]; rfl
theorem dec_t {w:Nat} (h:yO w=9):dec w=some (.b true):=by unfold dec; rw [h]; rfl
theorem dec_f {w:Nat} (h:yO w=1):dec w=some (.b false):=by unfold dec; rw [h]; rfl
theorem kc_le (k:IntKind):32≤kc k∧kc k≤39:=by cases k<;>decide
theorem iw_lt (w:Nat):iw w<2 ^ 64:=Nat.mod_lt _ (by decide)
def mkI (c u:Nat):Nat:=Nat.add c (Nat.mul 256 u)
theorem mkI_ok {k:IntKind} {u:Nat} (h:u<2 ^ 64):WR (mkI (kc k) u) (.i k u):=by
 have:=enc_wr (.i k u)
 have e:enc (.i k u)=mkI (kc k) u:=by
  show (bif Nat.blt u 18446744073709551616 then Nat.add (kc k) (Nat.mul 256 u) else 255)=_
  rw [show Nat.blt u 18446744073709551616=true from Nat.ble_eq_true_of_le h]; rfl
 rw [e] at this
 refine this.resolve_left fun e2=>?_
 have hk:=kc_le k
 have e3:kc k+256*u=255:=e2
 omega
def bW (b:Bool):Nat:=Bool.rec (motive:=fun _=>Nat) 1 9 b
theorem bW_ok (b:Bool):WR (bW b) (.b b):=by cases b<;>exact ⟨by decide,rfl,by decide⟩
def mkP (a b:Nat):Nat:=Nat.add 10 (Nat.add (Nat.mul 256 a) (Nat.mul 4294967296 b))
theorem mkP_ok {a b:Nat} (ha:a<16777216) (hb:b<16777216):WR (mkP a b) (.p a b):=by
 have:=enc_wr (.p a b)
 have e:enc (.p a b)=mkP a b:=by
  show (bif and (jP a) (jP b) then Nat.add 10 (Nat.add (Nat.mul 256 a) (Nat.mul 4294967296 b)) else 255)=_
  rw [show jP a=true from Nat.ble_eq_true_of_le ha,show jP b=true from Nat.ble_eq_true_of_le hb]; rfl
 rw [e] at this
 refine this.resolve_left fun e2=>?_
 have e3:10+(256*a+4294967296*b)=255:=e2
 omega
theorem f0_lt (w:Nat):f0 w<16777216:=Nat.mod_lt _ (by decide)
def wB (c:Bool) (x:Nat):Nat:=Bool.rec (motive:=fun _=>Nat) 0 x c
theorem wB_ok {c:Bool} {x:Nat} (h:xI (wB c x)=true):c=true∧wB c x=x∧xI x=true:=by
 cases c with
 | false=>exact absurd h (show ¬ xI 0=true by decide)
 | true=>exact ⟨rfl,rfl,h⟩
theorem wJ {a b:Nat} (h:Nat.beq a b=true):a=b:=Nat.eq_of_beq_eq_true h
theorem blt_t {a b:Nat} (h:Nat.blt a b=true):a<b:=Nat.le_of_ble_eq_true h
def vJ (a b:Bool):Bool:=Bool.rec (motive:=fun _=>Bool) false b a
theorem jH {a b:Bool} (h:vJ a b=true):a=true∧b=true:=by cases a<;>cases b<;>first|exact ⟨rfl,rfl⟩|cases h
structure Wn2 where
 mk ::
 run:Nat→Nat→Nat
def cmpW (f:Nat→Nat→Bool) (x y:Nat):Nat:=bW (f (iw x) (iw y))
def ariW (c:Nat) (f:Nat→Nat→Nat) (x y:Nat):Nat:=mkI c (f (iw x) (iw y))
def addX (p u w:Nat):Nat:=Nat.mod (Nat.add u w) p
def subX (p u w:Nat):Nat:=Nat.mod (Nat.add u (Nat.sub p w)) p
def mulX (p u w:Nat):Nat:=Nat.mod (Nat.mul u w) p
def neX (u w:Nat):Bool:=not (Nat.beq u w)
def keyX (p h u:Nat):Nat:=Nat.mod (Nat.add u h) p
def ltX (p h u w:Nat):Bool:=Nat.blt (keyX p h u) (keyX p h w)
def leX (p h u w:Nat):Bool:=Nat.ble (keyX p h u) (keyX p h w)
def gtX (p h u w:Nat):Bool:=Nat.blt (keyX p h w) (keyX p h u)
def geX (p h u w:Nat):Bool:=Nat.ble (keyX p h w) (keyX p h u)
def divW (c h:Nat) (f:Nat→Nat→Nat) (x y:Nat):Nat:=wB (vJ (neX (iw y) 0) (vJ (Nat.blt (iw x) h) (Nat.blt (iw y) h))) (mkI c (f (iw x) (iw y)))
def iopW (op:BinOp) (k:IntKind):Option Wn2:=match op with
 | .add=>some (.mk (ariW (kc k) (addX (pwK k))))
 | .sub=>some (.mk (ariW (kc k) (subX (pwK k))))
 | .mul=>some (.mk (ariW (kc k) (mulX (pwK k))))
 | .eql=>some (.mk (cmpW Nat.beq))
 | .neq=>some (.mk (cmpW neX))
 | .lss=>some (.mk (cmpW (ltX (pwK k) (hfK k))))
 | .leq=>some (.mk (cmpW (leX (pwK k) (hfK k))))
 | .gtr=>some (.mk (cmpW (gtX (pwK k) (hfK k))))
 | .geq=>some (.mk (cmpW (geX (pwK k) (hfK k))))
 | .quo=>some (.mk (divW (kc k) (hfK k) Nat.div))
 | .rem=>some (.mk (divW (kc k) (hfK k) Nat.mod))
 | .and=>some (.mk (ariW (kc k) Nat.land))
 | .or=>some (.mk (ariW (kc k) Nat.lor))
 | .xor=>some (.mk (ariW (kc k) Nat.xor))
 | _=>none
theorem pw_le (k:IntKind):pwK k≤2 ^ 64:=by cases k<;>decide
theorem iopW_ok {op:BinOp} {k:IntKind} {f:Wn2} (hf:iopW op k=some f) {x y:Nat} (h:xI (f.run x y)=true):∃ v,iopA op k (iw x) (iw y)=some v∧WR (f.run x y) v:=by
 have hp:=pw_le k
 have hm:∀ n,n % pwK k<2 ^ 64:=fun n=>Nat.lt_of_lt_of_le (Nat.mod_lt _ (uN k)) hp
 have hx:=iw_lt x
 have hy:=iw_lt y
 cases op<;>simp only [iopW,Option.some.injEq] at hf<;>first
  | (cases hf; done)
  | (subst hf; first
    | exact ⟨_,rfl,mkI_ok (hm _)⟩
    | exact ⟨_,rfl,bW_ok _⟩
    | exact ⟨_,rfl,mkI_ok (Nat.lt_of_le_of_lt Nat.and_le_left hx)⟩
    | exact ⟨_,rfl,mkI_ok (Nat.or_lt_two_pow hx hy)⟩
    | exact ⟨_,rfl,mkI_ok (Nat.xor_lt_two_pow hx hy)⟩
    | (
      obtain ⟨h1,h2,_⟩:=wB_ok h
      obtain ⟨h3,h4⟩:=jH h1
      obtain ⟨h4,h5⟩:=jH h4
      have h3:Nat.beq (iw y) 0=false:=by
       unfold neX at h3; cases hb:Nat.beq (iw y) 0 with
       | false=>rfl
       | true=>rw [hb] at h3; cases h3
      simp only [iopA,h3,h4,h5]
      refine ⟨_,rfl,?_⟩
      show WR (wB _ _) _
      rw [h2]
      first
       | exact mkI_ok (Nat.lt_of_le_of_lt (Nat.div_le_self _ _) hx)
       | exact mkI_ok (Nat.lt_of_le_of_lt (Nat.mod_le _ _) hx)))
def twoK (c x y:Nat):Bool:=Nat.beq (Nat.add (yO x) (Nat.mul 256 (yO y))) (Nat.mul 257 c)
theorem twoK_ok {c x y:Nat} (h:twoK c x y=true):yO x=c∧yO y=c:=by
 have h:=wJ h
 have h1:yO x<256:=Nat.mod_lt _ (by decide)
 have h2:yO y<256:=Nat.mod_lt _ (by decide)
 have h:yO x+256*yO y=257*c:=h
 omega
end
end Ab
namespace Ab
noncomputable section
abbrev DL :=List (Nat × List AV × List AV)
inductive Ans where|bad (n:Nat)|g (r:Eff)
abbrev KV :=Nat→AV→T AO→Nat→Ans
structure RT where
 mk ::
 rv:Bool→Nat→List AV→T AO→Nat→KV→Ans
 rw:Nat→Nat→Nat→T AO→Nat→KV→Ans
structure Mm where
 S:SL
 H:T AO
 nx:Nat
 D:DL
structure Cx where
 R:RT
 fk:Nat
abbrev K0 :=Nat→Mm→Ans
abbrev Ka :=Nat→Nat→Mm→Ans
abbrev FF :=Cx→Nat→Mm→K0→Ka→Ans
abbrev GG :=Cx→Nat→Mm→K0→Ans
structure Fn where
 mk ::
 run:FF
structure Gn where
 mk ::
 run:GG
def wD (E:Nat) (M:Mm):S:=⟨yS E M.S,M.H,M.nx,M.D⟩
def stop (cx:Cx) (c:Nat) (d:Option Nat):Ans:=.bad (Nat.add (Nat.mul 1000000 (Nat.succ cx.fk)) (why c d))
theorem yZ (cx:Cx) (c:Nat) (d:Option Nat) {z:Eff}:stop cx c d≠.g z:=fun h=>by cases h
def Mm.heap (M:Mm) (H:T AO) (nx:Nat):Mm:=⟨M.S,H,nx,M.D⟩
def inM (M:Mm) (f:SL→T AO→Nat→DL→Ans):Ans:=Mm.rec (motive:=fun _=>Ans) f M
def VW (w:Nat) (v' v:AV):Prop:=(w=255∧v'=v)∨WR w v
theorem enc_vw (v:AV):VW (enc v) v v:=(enc_wr v).imp (fun h=>⟨h,rfl⟩) id
def bigX (v:AV) (d:Nat) (E:Nat) (k:K0) (S:SL) (H:T AO) (nx:Nat) (D:DL):Ans:=k (vP E (yG d) 255) ⟨sput v d S,H,nx,D⟩
def putX (w:Nat) (v:AV) (d:Nat) (E:Nat) (M:Mm) (k:K0):Ans:=Bool.rec (motive:=fun _=>Ans) (k (vP E (yG d) w) M) (inM M (bigX v d E k)) (Nat.beq w 255)
theorem putX_ok {z:Eff} {w:Nat} {v' v:AV} {d E:Nat} {M:Mm} {k:K0} (hw:VW w v' v) (h:putX w v' d E M k=.g z):∃ E' M',wD E' M'=⟨(yS E M.S).put v d,M.H,M.nx,M.D⟩∧k E' M'=.g z:=by
 unfold putX at h
 rcases hw with ⟨rfl,rfl⟩|hw
 ·exact ⟨_,_,by unfold wD; simp only [view_big],h⟩
 ·rw [show Nat.beq w 255=false from Bool.eq_false_iff.2 fun e=>hw.1 (by rw [wJ e]; rfl)] at h
  exact ⟨_,M,by unfold wD; simp only [vM hw],h⟩
def putO (w:Nat) (v:AV):Option Nat→Nat→Mm→K0→Ans
 | none=>fun E M k=>k E M
 | some d=>fun E M k=>putX w v d E M k
theorem putO_ok {z:Eff} {w:Nat} {v' v:AV} {E:Nat} {M:Mm} {k:K0} (hw:VW w v' v):∀ {o:Option Nat},putO w v' o E M k=.g z→∃ E' M',wD E' M'=⟨wH (yS E M.S) o v,M.H,M.nx,M.D⟩∧k E' M'=.g z
 | none,h=>⟨E,M,rfl,h⟩
 | some d,h=>putX_ok hw h
def outK (cx:Cx) (o:Option Nat) (E:Nat) (M:Mm) (k:K0):Out→Ans
 | .val (v,H,nx)=>putO (enc v) v o E (M.heap H nx) k
 | .call f vs=>cx.R.rv true f vs M.H M.nx fun w v H nx=>putO w v o E (M.heap H nx) k
 | .dfr f cap vs=>putO 8 wC o E ⟨M.S,M.H,M.nx,(f,cap,vs)::M.D⟩ k
 | .bad=>stop cx 2 o
section
variable (TT:Nat→Option TI)
def jY (op:Op) (o:Option Nat):GG:=fun cx E M k=>outK cx o E M k (yU TT (yS E M.S) M.H M.nx op)
structure Wf where
 mk ::
 run:Nat→Mm→Nat
def fastK (w d:Nat) (g:GG) (cx:Cx) (E:Nat) (M:Mm) (k:K0):Ans:=Bool.rec (motive:=fun _=>Ans) (g cx E M k) (k (vP E (yG d) w) M) (xI w)
def fastG (f:Nat→Mm→Nat) (d:Nat) (g:GG):GG:=fun cx E M k=>fastK (f E M) d g cx E M k
def intK (t:TypeId):Option IntKind:=match jF TT t with
 | some (.int k)=>some k
 | _=>none
def bin2 (c:Nat) (f:Nat→Nat→Nat) (x y:Nat):Nat:=wB (twoK c x y) (f x y)
def binF (c:Nat) (f:Nat→Nat→Nat) (x y:Nat→Nat) (E:Nat) (_:Mm):Nat:=bin2 c f (x E) (y E)
def movF (x:Nat→Nat) (E:Nat) (_:Mm):Nat:=x E
def nil1 (x:Nat):Nat:=wB (Nat.beq (yO x) 10) x
def nilF (x:Nat→Nat) (E:Nat) (_:Mm):Nat:=nil1 (x E)
def fld1 (f x:Nat):Nat:=wB (vJ (Nat.beq (yO x) 10) (jP (Nat.add (f1 x) f))) (mkP (f0 x) (Nat.add (f1 x) f))
def fldF (f:Nat) (x:Nat→Nat) (E:Nat) (_:Mm):Nat:=fld1 f (x E)
def isSl (t:Nat):Bool:=Nat.beq (Nat.shiftRight (Nat.succ t) 1) 6
def ixOff (m x y:Nat):Nat:=Nat.add (f1 x) (Nat.mul (iw y) m)
def idx1 (m x y:Nat):Nat:=wB (vJ (vJ (Nat.beq (yO y) 35) (Nat.blt (iw y) 9223372036854775808)) (vJ (isSl (yO x)) (vJ (Nat.blt (iw y) (f2 x)) (jP (ixOff m x y))))) (mkP (f0 x) (ixOff m x y))
def idxF (m:Nat) (x y:Nat→Nat) (E:Nat) (_:Mm):Nat:=idx1 m (x E) (y E)
def ida1 (m len x y:Nat):Nat:=wB (vJ (vJ (Nat.beq (yO y) 35) (Nat.blt (iw y) 9223372036854775808)) (vJ (Nat.beq (yO x) 10) (vJ (Nat.blt (iw y) len) (jP (ixOff m x y))))) (mkP (f0 x) (ixOff m x y))
def idaF (m len:Nat) (x y:Nat→Nat) (E:Nat) (_:Mm):Nat:=ida1 m len (x E) (y E)
def len1 (x:Nat):Nat:=Bool.rec (motive:=fun _=>Nat) (wB (Nat.beq (Nat.land (yO x) 251) 3) 35) (mkI 35 (f2 x)) (isSl (yO x))
def lenF (x:Nat→Nat) (E:Nat) (_:Mm):Nat:=len1 (x E)
def not1 (x:Nat):Nat:=Bool.rec (motive:=fun _=>Nat) (wB (Nat.beq (yO x) 9) 1) 9 (Nat.beq (yO x) 1)
def notF (x:Nat→Nat) (E:Nat) (_:Mm):Nat:=not1 (x E)
def pick1 (c x y:Nat):Nat:=Bool.rec (motive:=fun _=>Nat) (wB (Nat.beq (yO c) 1) y) x (Nat.beq (yO c) 9)
def pickF (c x y:Nat→Nat) (E:Nat) (_:Mm):Nat:=pick1 (c E) (x E) (y E)
def cellC (off:Nat) (s:CT):Nat:=CT.rec (motive:=fun _=>Nat) (fun l=>encO (nthA l off)) (fun d t=>encO (orD (t.get off) d)) (fun w=>yT w (yG off)) (fun w t=>encO (orD (t.get off) (dec (yT w (yG off))))) s
def cellB (off:Nat) (o:AO):Nat:=AO.rec (motive:=fun _=>Nat) (fun _ n _ s=>wB (Nat.blt off n) (cellC off s)) (fun _ _=>0) (fun _ _ _=>0) o
def cellO (off:Nat) (o:Option AO):Nat:=Option.rec (motive:=fun _=>Nat) 0 (cellB off) o
def load1 (H:T AO) (p:Nat):Nat:=wB (Nat.beq (yO p) 10) (cellO (f1 p) (H.get (f0 p)))
def loadF (x:Nat→Nat) (E:Nat) (M:Mm):Nat:=load1 M.H (x E)
def ext1 (k:Nat) (v:Option AV):Nat:=match v with
 | some (.tu l)=>encO (nthA l k)
 | _=>0
def extF (k t:Nat) (E:Nat) (M:Mm):Nat:=wB (Nat.beq (yO (yT E (yG t))) 255) (ext1 k (sget M.S t))
def cvX (k d:IntKind) (x:Nat):Nat:=wB (Nat.beq (yO x) (kc k)) (mkI (kc d) (cvI d k (iw x)))
def cvF (k d:IntKind) (x:Nat→Nat) (E:Nat) (_:Mm):Nat:=cvX k d (x E)
def fldO (t:TypeId) (k:Nat):Option Nat:=match jF TT t with
 | some (.struct fs)=>match fs[k]? with
  | none=>none
  | some f=>match vF TT f.type with
   | none=>none
   | some m=>bif Nat.beq m 0 then none else some f.offset
 | _=>none
def shrX (k k2:IntKind) (x y:Nat):Nat:=wB (vJ (vJ (Nat.beq (yO x) (kc k)) (Nat.beq (yO y) (kc k2))) (vJ (Nat.blt (iw y) (hfK k2)) (vJ (Nat.blt (iw x) (hfK k)) (Nat.ble (iw y) 64)))) (mkI (kc k) (Nat.shiftRight (iw x) (iw y)))
def shlX (k k2:IntKind) (x y:Nat):Nat:=wB (vJ (vJ (Nat.beq (yO x) (kc k)) (Nat.beq (yO y) (kc k2))) (vJ (Nat.blt (iw y) (hfK k2)) (Nat.ble (iw y) 64))) (mkI (kc k) (Nat.mod (Nat.shiftLeft (iw x) (iw y)) (pwK k)))
def shrF (k k2:IntKind) (x y:Nat→Nat) (E:Nat) (_:Mm):Nat:=shrX k k2 (x E) (y E)
def shlF (k k2:IntKind) (x y:Nat→Nat) (E:Nat) (_:Mm):Nat:=shlX k k2 (x E) (y E)
def shO (o:BinOp) (k k2:IntKind) (x y:Operand):Option Wf:=match o with
 | .shr=>some (.mk (shrF k k2 (gW x).run (gW y).run))
 | .shl=>some (.mk (shlF k k2 (gW x).run (gW y).run))
 | _=>none
def sh2 (o:BinOp) (k:IntKind) (x y:Operand):Option IntKind→Option Wf
 | none=>none
 | some k2=>shO o k k2 x y
def wfO (op:Op):Option Wf:=match op with
 | .move x=>some (.mk (movF (gW x).run))
 | .assign x=>some (.mk (movF (gW x).run))
 | .nilCheck x=>some (.mk (nilF (gW x).run))
 | .pick c x y=>some (.mk (pickF (gW c).run (gW x).run (gW y).run))
 | .binOp o t x y ty=>match intK TT t with
  | none=>none
  | some k=>match iopW o k with
   | none=>sh2 o k x y (intK TT ty)
   | some f=>some (.mk (binF (kc k) f.run (gW x).run (gW y).run))
 | .unOp .not _ x=>some (.mk (notF (gW x).run))
 | .fieldAddr t x k=>match fldO TT t k with
  | none=>none
  | some f=>some (.mk (fldF f (gW x).run))
 | .indexAddr t x y=>match jF TT t with
  | some (.slice e)=>match vF TT e with
   | none=>none
   | some m=>some (.mk (idxF m (gW x).run (gW y).run))
  | some (.array len e)=>match vF TT e with
   | none=>none
   | some m=>some (.mk (idaF m len (gW x).run (gW y).run))
  | _=>none
 | .load t x=>match jF TT t with
  | none=>none
  | some d=>bif isAggD d then none else some (.mk (loadF (gW x).run))
 | .extract (.tmp t) k=>some (.mk (extF k t))
 | .convert s d x=>match intK TT s with
  | none=>none
  | some k=>match intK TT d with
   | none=>none
   | some d=>some (.mk (cvF k d (gW x).run))
 | .call c=>match c.callee with
  | .builtin .len=>match c.args.toList with
   | [x]=>match c.argTypes.toList with
    | [t]=>match jF TT t with
     | some (.slice _)=>some (.mk (lenF (gW x).run))
     | _=>none
    | _=>none
   | _=>none
  | _=>none
 | _=>none
end
section
variable {TT:Nat→Option TI}
def WfOk (TT:Nat→Option TI) (op:Op) (f:Wf):Prop:=∀ E M,xI (f.run E M)=true→∃ v,yU TT (yS E M.S) M.H M.nx op=.val (v,M.H,M.nx)∧WR (f.run E M) v
theorem wf_mov {x:Operand} {op:Op} (ho:op=.move x∨op=.assign x):WfOk TT op (.mk (movF (gW x).run)):=by
 intro E M h
 obtain ⟨v,h1,h2⟩:=gW_ok (S:=M.S) (h:xI ((gW x).run E)=true)
 refine ⟨v,?_,h2⟩
 rcases ho with rfl|rfl<;>simp only [yU,doP,h1,ofP]
theorem uM {x:Operand} {E:Nat} {S:SL} {t:Nat} {v:AV} (ht:Nat.beq (yO ((gW x).run E)) t=true) (hd:yO ((gW x).run E)=t→dec ((gW x).run E)=some v) (h1:1≤t) (h2:t≤64):yV (yS E S) x=some v :=
 gW_dec (wJ ht) h1 h2 (hd (wJ ht))
theorem wf_nil {x:Operand}:WfOk TT (.nilCheck x) (.mk (nilF (gW x).run)):=by
 intro E M h
 obtain ⟨h1,h2,h3⟩:=wB_ok (show xI (wB _ _)=true from h)
 have hx:=uM (S:=M.S) h1 dec_ptr (by decide) (by decide)
 refine ⟨.p (f0 ((gW x).run E)) (f1 ((gW x).run E)),by simp only [yU,doP,hx,ofP],?_⟩
 show WR (wB _ _) _
 rw [h2]
 obtain ⟨v,e1,e2⟩:=gW_ok (S:=M.S) h3
 rw [hx] at e1
 simp only [Option.some.injEq] at e1
 rw [e1]; exact e2
theorem wf_pick {c x y:Operand}:WfOk TT (.pick c x y) (.mk (pickF (gW c).run (gW x).run (gW y).run)):=by
 intro E M h
 have e:∀ b,(Wf.mk (pickF (gW c).run (gW x).run (gW y).run)).run E M=Bool.rec (motive:=fun _=>Nat) (wB (Nat.beq (yO ((gW c).run E)) 1) ((gW y).run E)) ((gW x).run E) b∨¬ Nat.beq (yO ((gW c).run E)) 9=b:=fun b=>by
  by_cases hb:Nat.beq (yO ((gW c).run E)) 9=b
  ·exact .inl (by rw [← hb]; rfl)
  ·exact .inr hb
 rcases hc:Nat.beq (yO ((gW c).run E)) 9 with _|_
 ·have e:=(e false).resolve_right (by rw [hc]; simp)
  rw [e] at h ⊢
  obtain ⟨h1,h2,h3⟩:=wB_ok (show xI (wB _ _)=true from h)
  have hc:=uM (S:=M.S) h1 dec_f (by decide) (by decide)
  obtain ⟨v,e1,e2⟩:=gW_ok (S:=M.S) h3
  exact ⟨v,by simp only [yU,doP,hc,e1,ofP],by show WR (wB _ _) _; rw [h2]; exact e2⟩
 ·have e:=(e true).resolve_right (by rw [hc]; simp)
  rw [e] at h ⊢
  have hc:=uM (S:=M.S) hc dec_t (by decide) (by decide)
  obtain ⟨v,e1,e2⟩:=gW_ok (S:=M.S) h
  exact ⟨v,by simp only [yU,doP,hc,e1,ofP],e2⟩
theorem wf_bin {o:BinOp} {t ty:TypeId} {x y:Operand} {k:IntKind} {f:Wn2} (hf:iopW o k=some f):WfOk TT (.binOp o t x y ty) (.mk (binF (kc k) f.run (gW x).run (gW y).run)):=by
 intro E M h
 obtain ⟨h1,h2,h3⟩:=wB_ok (show xI (wB _ _)=true from h)
 obtain ⟨hx,hy⟩:=twoK_ok h1
 have hk:=kc_le k
 have hx:=gW_dec (S:=M.S) hx (by omega) (by omega) (dec_int hx)
 have hy:=gW_dec (S:=M.S) hy (by omega) (by omega) (dec_int hy)
 obtain ⟨v,e1,e2⟩:=iopW_ok hf h3
 refine ⟨v,?_,by show WR (wB _ _) _; rw [h2]; exact e2⟩
 have e3:binA TT o t (.i k (iw ((gW x).run E))) (.i k (iw ((gW y).run E)))=some v:=by
  unfold binA
  cases o<;>first|(simp only [decide_true,cond_true]; exact e1)|cases hf
 simp only [yU,doP,hx,hy,e3]
theorem wf_shr {t ty:TypeId} {x y:Operand} {k k2:IntKind}:WfOk TT (.binOp .shr t x y ty) (.mk (shrF k k2 (gW x).run (gW y).run)):=by
 intro E M h
 obtain ⟨h1,h2,h3⟩:=wB_ok (show xI (wB _ _)=true from h)
 obtain ⟨h1,h4⟩:=jH h1
 obtain ⟨hx,hy⟩:=jH h1
 obtain ⟨h4,h5⟩:=jH h4
 obtain ⟨h5,h6⟩:=jH h5
 have hk:=kc_le k
 have hk2:=kc_le k2
 have hx:=gW_dec (S:=M.S) (wJ hx) (by omega) (by omega) (dec_int (wJ hx))
 have hy:=gW_dec (S:=M.S) (wJ hy) (by omega) (by omega) (dec_int (wJ hy))
 refine ⟨.i k (Nat.shiftRight (iw ((gW x).run E)) (iw ((gW y).run E))),?_,?_⟩
 ·have e3:binA TT .shr t (.i k (iw ((gW x).run E))) (.i k2 (iw ((gW y).run E)))=some (.i k (Nat.shiftRight (iw ((gW x).run E)) (iw ((gW y).run E)))):=by
   show shA .shr k _ k2 _=_
   generalize iw ((gW x).run E)=u at h5 ⊢
   generalize iw ((gW y).run E)=v at h4 h6 ⊢
   unfold shA
   rw [h4,h5,h6]
  simp only [yU,doP,hx,hy,e3]
 ·show WR (wB _ _) _
  rw [h2]
  refine mkI_ok (Nat.lt_of_le_of_lt ?_ (iw_lt ((gW x).run E)))
  rw [uR]; exact Nat.div_le_self _ _
theorem wf_shl {t ty:TypeId} {x y:Operand} {k k2:IntKind}:WfOk TT (.binOp .shl t x y ty) (.mk (shlF k k2 (gW x).run (gW y).run)):=by
 intro E M h
 obtain ⟨h1,h2,h3⟩:=wB_ok (show xI (wB _ _)=true from h)
 obtain ⟨h1,h4⟩:=jH h1
 obtain ⟨hx,hy⟩:=jH h1
 obtain ⟨h4,h5⟩:=jH h4
 have hk:=kc_le k
 have hk2:=kc_le k2
 have hx:=gW_dec (S:=M.S) (wJ hx) (by omega) (by omega) (dec_int (wJ hx))
 have hy:=gW_dec (S:=M.S) (wJ hy) (by omega) (by omega) (dec_int (wJ hy))
 refine ⟨.i k (Nat.mod (Nat.shiftLeft (iw ((gW x).run E)) (iw ((gW y).run E))) (pwK k)),?_,?_⟩
 ·have e3:binA TT .shl t (.i k (iw ((gW x).run E))) (.i k2 (iw ((gW y).run E)))=some (.i k (Nat.mod (Nat.shiftLeft (iw ((gW x).run E)) (iw ((gW y).run E))) (pwK k))):=by
   show shA .shl k _ k2 _=_
   generalize iw ((gW x).run E)=u
   generalize iw ((gW y).run E)=v at h4 h5 ⊢
   unfold shA
   rw [h4,h5]
  simp only [yU,doP,hx,hy,e3]
 ·show WR (wB _ _) _
  rw [h2]
  exact mkI_ok (Nat.lt_of_lt_of_le (Nat.mod_lt _ (uN k)) (pw_le k))
theorem shO_ok {o:BinOp} {t ty:TypeId} {x y:Operand} {k k2:IntKind} {f:Wf} (hf:shO o k k2 x y=some f):WfOk TT (.binOp o t x y ty) f:=by
 cases o with
 | shr=>simp only [shO,Option.some.injEq] at hf; subst hf; exact wf_shr
 | shl=>simp only [shO,Option.some.injEq] at hf; subst hf; exact wf_shl
 | _=>cases hf
theorem wf_not {t:TypeId} {x:Operand}:WfOk TT (.unOp .not t x) (.mk (notF (gW x).run)):=by
 intro E M h
 rcases hc:Nat.beq (yO ((gW x).run E)) 1 with _|_
 ·have e:(Wf.mk (notF (gW x).run)).run E M=wB (Nat.beq (yO ((gW x).run E)) 9) 1:=by
   show Bool.rec (motive:=fun _=>Nat) _ _ (Nat.beq (yO ((gW x).run E)) 1)=_
   rw [hc]
  rw [e] at h ⊢
  obtain ⟨h1,h2,h3⟩:=wB_ok h
  have hx:=uM (S:=M.S) h1 dec_t (by decide) (by decide)
  exact ⟨.b false,by simp only [yU,doP,hx,ofP]; rfl,by rw [h2]; exact bW_ok false⟩
 ·have e:(Wf.mk (notF (gW x).run)).run E M=9:=by
   show Bool.rec (motive:=fun _=>Nat) _ _ (Nat.beq (yO ((gW x).run E)) 1)=_
   rw [hc]
  have hx:=uM (S:=M.S) hc dec_f (by decide) (by decide)
  exact ⟨.b true,by simp only [yU,doP,hx,ofP]; rfl,by rw [e]; exact bW_ok true⟩
theorem wf_fld {t:TypeId} {x:Operand} {k f:Nat} (hf:fldO TT t k=some f):WfOk TT (.fieldAddr t x k) (.mk (fldF f (gW x).run)):=by
 intro E M h
 obtain ⟨h1,h2,h3⟩:=wB_ok (show xI (wB _ _)=true from h)
 obtain ⟨h1,h4⟩:=jH h1
 have hx:=uM (S:=M.S) h1 dec_ptr (by decide) (by decide)
 refine ⟨.p (f0 ((gW x).run E)) (Nat.add (f1 ((gW x).run E)) f),?_,by show WR (wB _ _) _; rw [h2]; exact mkP_ok (f0_lt _) (blt_t h4)⟩
 unfold fldO at hf
 simp only [yU,doP,hx]
 split at hf
 ·rename_i fs hu
  simp only [hu]
  split at hf
  ·cases hf
  ·rename_i fd hfd
   simp only [hfd]
   split at hf
   ·cases hf
   ·rename_i m hm
    simp only [hm]
    rw [cond_eq_ite] at hf ⊢
    split at hf
    ·cases hf
    ·rename_i hz
     simp only [Option.some.injEq] at hf; subst hf
     rw [if_neg hz]; rfl
 ·cases hf
theorem isSl_ok {t:Nat} (h:isSl t=true):t=11∨t=12:=by
 have h:=wJ h
 rw [uR] at h
 have h:(t+1) / 2 ^ 1=6:=h
 omega
theorem sl_get {x:Operand} {E:Nat} {S:SL} (h:isSl (yO ((gW x).run E))=true):∃ b,yV (yS E S) x=some (.sl (f0 ((gW x).run E)) (f1 ((gW x).run E)) (f2 ((gW x).run E)) (f3 ((gW x).run E)) b):=by
 rcases isSl_ok h with h|h
 ·exact ⟨false,gW_dec h (by decide) (by decide) (dec_sl h)⟩
 ·exact ⟨true,gW_dec h (by decide) (by decide) (dec_slk h)⟩
theorem natA_i64 {u:Nat} (h:Nat.blt u 9223372036854775808=true):natA (.i .i64 u)=some u:=by
 show (bif Nat.blt u 9223372036854775808 then some u else none)=_
 rw [h]; rfl
theorem wf_idx {t e m:Nat} {x y:Operand} (hu:jF TT t=some (.slice e)) (hm:vF TT e=some m):WfOk TT (.indexAddr t x y) (.mk (idxF m (gW x).run (gW y).run)):=by
 intro E M h
 obtain ⟨h1,h2,h3⟩:=wB_ok (show xI (wB _ _)=true from h)
 obtain ⟨h1,h4⟩:=jH h1
 obtain ⟨h1,h5⟩:=jH h1
 obtain ⟨h4,h6⟩:=jH h4
 obtain ⟨h6,h7⟩:=jH h6
 have hy:yV (yS E M.S) y=some (.i .i64 (iw ((gW y).run E))):=uM (S:=M.S) h1 (dec_int (k:=.i64)) (by decide) (by decide)
 obtain ⟨b,hx⟩:=sl_get (S:=M.S) h4
 refine ⟨_,by simp only [yU,doP,hy,natA_i64 h5,hx,hu,hm,h6,cond_true,ofP]; rfl,by show WR (wB _ _) _; rw [h2]; exact mkP_ok (f0_lt _) (blt_t h7)⟩
theorem wf_ida {t e m len:Nat} {x y:Operand} (hu:jF TT t=some (.array len e)) (hm:vF TT e=some m):WfOk TT (.indexAddr t x y) (.mk (idaF m len (gW x).run (gW y).run)):=by
 intro E M h
 obtain ⟨h1,h2,h3⟩:=wB_ok (show xI (wB _ _)=true from h)
 obtain ⟨h1,h4⟩:=jH h1
 obtain ⟨h1,h5⟩:=jH h1
 obtain ⟨h4,h6⟩:=jH h4
 obtain ⟨h6,h7⟩:=jH h6
 have hy:yV (yS E M.S) y=some (.i .i64 (iw ((gW y).run E))):=uM (S:=M.S) h1 (dec_int (k:=.i64)) (by decide) (by decide)
 have hx:=uM (S:=M.S) h4 dec_ptr (by decide) (by decide)
 refine ⟨_,by simp only [yU,doP,hy,natA_i64 h5,hx,hu,hm,h6,cond_true,ofP]; rfl,by show WR (wB _ _) _; rw [h2]; exact mkP_ok (f0_lt _) (blt_t h7)⟩
theorem cellC_ok {s:CT} {off:Nat} (h:xI (cellC off s)=true):∃ v,s.get off=some v∧WR (cellC off s) v:=by
 cases s with
 | li l=>exact encO_ok h
 | tr d t=>exact encO_ok h
 | pk w =>
  obtain ⟨v,h1,h2⟩:=tagOK_dec h
  exact ⟨v,h1,h2,h1,slot_lt _ _⟩
 | mx w t=>exact encO_ok h
theorem cellO_ok {o:Option AO} {off:Nat} (h:xI (cellO off o)=true):∃ b v,o=some b∧cellAt b off=some v∧WR (cellO off o) v:=by
 cases o with
 | none=>exact absurd h (show ¬ xI 0=true by decide)
 | some b =>
  cases b with
  | mp es cl=>exact absurd h (show ¬ xI 0=true by decide)
  | si _ _ _=>exact absurd h (show ¬ xI 0=true by decide)
  | c e n kn s =>
   obtain ⟨h1,h2,h3⟩:=wB_ok (show xI (wB _ _)=true from h)
   obtain ⟨v,h4,h5⟩:=cellC_ok h3
   refine ⟨_,v,rfl,by simp only [cellAt,h1,cond_true,h4],?_⟩
   show WR (wB _ _) _
   rw [h2]; exact h5
theorem wf_load {t:TypeId} {x:Operand} {d:TypeDesc} (hu:jF TT t=some d) (hd:isAggD d=false):WfOk TT (.load t x) (.mk (loadF (gW x).run)):=by
 intro E M h
 obtain ⟨h1,h2,h3⟩:=wB_ok (show xI (wB _ _)=true from h)
 have hx:=uM (S:=M.S) h1 dec_ptr (by decide) (by decide)
 obtain ⟨b,v,e1,e2,e3⟩:=cellO_ok h3
 refine ⟨v,?_,by show WR (wB _ _) _; rw [h2]; exact e3⟩
 have e4:loadA TT M.H t (f0 ((gW x).run E)) (f1 ((gW x).run E))=some v:=by
  unfold loadA
  simp only [e1,hu,hd,cond_false,e2]
 simp only [yU,loadO,hx,e4]
theorem wf_ext {t k:Nat}:WfOk TT (.extract (.tmp t) k) (.mk (extF k t)):=by
 intro E M h
 obtain ⟨h1,h2,h3⟩:=wB_ok (show xI (wB _ _)=true from h)
 have hx:(yS E M.S).get t=sget M.S t:=by rw [view_eq,if_pos (wJ h1)]
 unfold ext1 at h2 h3
 split at h3
 ·rename_i l hl
  obtain ⟨v,e1,e2⟩:=encO_ok h3
  refine ⟨v,?_,by show WR (wB _ _) _; unfold ext1; rw [hl]; rw [hl] at h2; rw [h2]; exact e2⟩
  rw [nthA_eq] at e1
  have hx2:yV (yS E M.S) (.tmp t)=some (.tu l):=hx.trans hl
  simp only [yU,doP,hx2,e1,ofP]
 ·exact absurd h3 (show ¬ xI 0=true by decide)
theorem cvI_lt (d k:IntKind) (u:Nat):cvI d k u<2 ^ 64:=Nat.lt_of_lt_of_le (Nat.mod_lt _ (uN d)) (pw_le d)
theorem intK_ok {t:TypeId} {k:IntKind} (h:intK TT t=some k):jF TT t=some (.int k):=by
 unfold intK at h
 split at h
 ·rename_i k' hk; simp only [Option.some.injEq] at h; subst h; exact hk
 ·cases h
theorem wf_cv {s d:TypeId} {x:Operand} {k k2:IntKind} (hs:intK TT s=some k) (hd:intK TT d=some k2):WfOk TT (.convert s d x) (.mk (cvF k k2 (gW x).run)):=by
 intro E M h
 obtain ⟨h1,h2,h3⟩:=wB_ok (show xI (wB _ _)=true from h)
 have hk:=kc_le k
 have hx:=uM (S:=M.S) h1 (dec_int (k:=k)) (by omega) (by omega)
 refine ⟨.i k2 (cvI k2 k (iw ((gW x).run E))),?_,by show WR (wB _ _) _; rw [h2]; exact mkI_ok (cvI_lt _ _ _)⟩
 simp only [yU,doP,hx,intK_ok hs,intK_ok hd]
theorem f2_lt (w:Nat):f2 w<16777216:=Nat.mod_lt _ (by decide)
theorem lenV_small {n:Nat} (h:n<16777216):lenV n=some (.i .i64 n):=by
 unfold lenV; rw [show Nat.blt n 9223372036854775808=true from Nat.ble_eq_true_of_le (by omega)]; rfl
theorem wf_len {c:Call} {x:Operand} {t e:TypeId} (hc:c.callee=.builtin .len) (ha:c.args.toList=[x]) (ht:c.argTypes.toList=[t]) (hu:jF TT t=some (.slice e)):WfOk TT (.call c) (.mk (lenF (gW x).run)):=by
 intro E M h
 have fin:∀ {a:AV} {n:Nat},yV (yS E M.S) x=some a→(∀ l m,a≠.s l m)→lenA a=some (.i .i64 n)→yU TT (yS E M.S) M.H M.nx (.call c)=.val (.i .i64 n,M.H,M.nx):=fun {a n} h1 h2 h3=>by
  have:doP TT (yS E M.S) (.call c)=some (.i .i64 n):=by
   simp only [doP,hc,ha,ht,h1,hu]
   cases a<;>first|exact absurd rfl (h2 _ _)|exact h3
  simp only [yU,hc,this]
 rcases hs:isSl (yO ((gW x).run E)) with _|_
 ·have e:(Wf.mk (lenF (gW x).run)).run E M=wB (Nat.beq (Nat.land (yO ((gW x).run E)) 251) 3) 35:=by
   show Bool.rec (motive:=fun _=>Nat) _ _ (isSl (yO ((gW x).run E)))=_
   rw [hs]
  rw [e] at h ⊢
  obtain ⟨h1,h2,h3⟩:=wB_ok h
  have h1:=wJ h1
  have h8:yO ((gW x).run E)<256:=Nat.mod_lt _ (by decide)
  have h9:yO ((gW x).run E)=3∨yO ((gW x).run E)=7:=by
   have key:∀ t,t<256→Nat.land t 251=3→t=3∨t=7:=by decide +kernel
   exact key _ h8 h1
  have hw:WR (wB (Nat.beq (Nat.land (yO ((gW x).run E)) 251) 3) 35) (.i .i64 0):=by rw [h2]; exact mkI_ok (k:=.i64) (u:=0) (by decide)
  rcases h9 with h9|h9
  ·have hx:=gW_dec (S:=M.S) h9 (by decide) (by decide) (show dec ((gW x).run E)=some .ns by unfold dec; rw [h9]; rfl)
   exact ⟨_,fin hx (fun _ _ e=>by cases e) O,hw⟩
  ·have hx:=gW_dec (S:=M.S) h9 (by decide) (by decide) (show dec ((gW x).run E)=some .es by unfold dec; rw [h9]; rfl)
   exact ⟨_,fin hx (fun _ _ e=>by cases e) O,hw⟩
 ·have e:(Wf.mk (lenF (gW x).run)).run E M=mkI 35 (f2 ((gW x).run E)):=by
   show Bool.rec (motive:=fun _=>Nat) _ _ (isSl (yO ((gW x).run E)))=_
   rw [hs]
  obtain ⟨b,hx⟩:=sl_get (S:=M.S) hs
  have hl:=f2_lt ((gW x).run E)
  exact ⟨_,fin hx (fun _ _ e=>by cases e) (lenV_small hl),by rw [e]; exact mkI_ok (k:=.i64) (by omega)⟩
theorem wfO_ok {op:Op} {f:Wf} (hf:wfO TT op=some f):WfOk TT op f:=by
 cases op with
 | move x=>simp only [wfO,Option.some.injEq] at hf; subst hf; exact wf_mov (.inl O)
 | assign x=>simp only [wfO,Option.some.injEq] at hf; subst hf; exact wf_mov (.inr O)
 | nilCheck x=>simp only [wfO,Option.some.injEq] at hf; subst hf; exact wf_nil
 | pick c x y=>simp only [wfO,Option.some.injEq] at hf; subst hf; exact wf_pick
 | binOp o t x y ty =>
  simp only [wfO] at hf
  split at hf
  ·cases hf
  ·split at hf
   ·cases hk:intK TT ty with
    | none=>rw [hk] at hf; cases hf
    | some k2=>rw [hk] at hf; exact shO_ok hf
   ·rename_i g hg
    simp only [Option.some.injEq] at hf; subst hf; exact wf_bin hg
 | unOp o t x =>
  cases o with
  | not=>simp only [wfO,Option.some.injEq] at hf; subst hf; exact wf_not
  | _=>cases hf
 | fieldAddr t x k =>
  simp only [wfO] at hf
  split at hf
  ·cases hf
  ·rename_i g hg
   simp only [Option.some.injEq] at hf; subst hf; exact wf_fld hg
 | indexAddr t x y =>
  simp only [wfO] at hf
  split at hf
  ·rename_i e hu
   split at hf
   ·cases hf
   ·rename_i m hm
    simp only [Option.some.injEq] at hf; subst hf; exact wf_idx hu hm
  ·rename_i len e hu
   split at hf
   ·cases hf
   ·rename_i m hm
    simp only [Option.some.injEq] at hf; subst hf; exact wf_ida hu hm
  ·cases hf
 | load t x =>
  simp only [wfO] at hf
  split at hf
  ·cases hf
  ·rename_i d hd
   rcases ha:isAggD d with _|_
   ·rw [ha] at hf
    simp only [cond_false,Option.some.injEq] at hf; subst hf; exact wf_load hd ha
   ·rw [ha] at hf; cases hf
 | extract x k =>
  cases x with
  | tmp t=>simp only [wfO,Option.some.injEq] at hf; subst hf; exact wf_ext
  | _=>cases hf
 | convert s d x =>
  simp only [wfO] at hf
  split at hf
  ·cases hf
  ·rename_i k hk
   split at hf
   ·cases hf
   ·rename_i k2 hk2
    simp only [Option.some.injEq] at hf; subst hf; exact wf_cv hk hk2
 | call c =>
  simp only [wfO] at hf
  split at hf
  ·rename_i hc
   split at hf
   ·rename_i x hx
    split at hf
    ·rename_i t ht
     split at hf
     ·rename_i e hu
      simp only [Option.some.injEq] at hf; subst hf; exact wf_len hc hx ht hu
     ·cases hf
    ·cases hf
   ·cases hf
  ·cases hf
 | _=>cases hf
end
end
end Ab
namespace Ab
noncomputable section
def canW (w:Nat):Nat:=Bool.rec (motive:=fun _=>Nat) (Bool.rec (motive:=fun _=>Nat) (encO (dec w)) (Nat.mod w 72057594037927936) (Nat.beq (yO w) 10)) (Nat.mod w 4722366482869645213696) (Nat.beq (Nat.shiftRight (yO w) 3) 4)
theorem canW_ok {w:Nat} {v:AV} (hd:dec w=some v):canW w=enc v:=by
 unfold canW
 cases h:Nat.beq (Nat.shiftRight (yO w) 3) 4 with
 | true =>
  have h:=wJ h
  rw [uR] at h
  have hk:∃ k,yO w=kc k:=by
   have:yO w=32∨yO w=33∨yO w=34∨yO w=35∨yO w=36∨yO w=37∨yO w=38∨yO w=39:=by omega
   rcases this with e|e|e|e|e|e|e|e
   ·exact ⟨.i8,e⟩
   ·exact ⟨.i16,e⟩
   ·exact ⟨.i32,e⟩
   ·exact ⟨.i64,e⟩
   ·exact ⟨.u8,e⟩
   ·exact ⟨.u16,e⟩
   ·exact ⟨.u32,e⟩
   ·exact ⟨.u64,e⟩
  obtain ⟨k,hk⟩:=hk
  have e:=dec_int hk
  rw [hd] at e
  simp only [Option.some.injEq] at e; subst e
  have hi:=iw_lt w
  show Nat.mod w _=bif Nat.blt (iw w) 18446744073709551616 then Nat.add (kc k) (Nat.mul 256 (iw w)) else 255
  rw [show Nat.blt (iw w) 18446744073709551616=true from Nat.ble_eq_true_of_le hi,cond_true,← hk]
  show w % 4722366482869645213696=w % 256+256*(Nat.shiftRight w 8 % 18446744073709551616)
  rw [uR]; omega
 | false =>
  cases h2:Nat.beq (yO w) 10 with
  | true =>
   have h2:=wJ h2
   have e:=dec_ptr h2
   rw [hd] at e
   simp only [Option.some.injEq] at e; subst e
   have h3:=f0_lt w
   have h4:f1 w<16777216:=Nat.mod_lt _ (by decide)
   show Nat.mod w _=bif and (jP (f0 w)) (jP (f1 w)) then Nat.add 10 (Nat.add (Nat.mul 256 (f0 w)) (Nat.mul 4294967296 (f1 w))) else 255
   rw [show jP (f0 w)=true from Nat.ble_eq_true_of_le h3,show jP (f1 w)=true from Nat.ble_eq_true_of_le h4]
   show w % 72057594037927936=10+(256*(Nat.shiftRight w 8 % 16777216)+4294967296*(Nat.shiftRight w 32 % 16777216))
   have h2:w % 256=10:=h2
   rw [uR,uR]; omega
  | false=>show encO (dec w)=_; rw [hd]; rfl
theorem vT {w:Nat} {v:AV} (h:dec w=some v):xI w=true:=by
 refine tagOK_iff.2 ⟨?_,?_⟩
 ·by_cases h0:yO w=0
  ·rw [dec_zero h0] at h; cases h
  ·omega
 ·by_cases h0:65≤yO w
  ·rw [dec_65 h0] at h; cases h
  ·omega
def canT (c:Nat):Bool:=vJ (xI c) (neX c 8)
theorem canT_ok {w:Nat} (h:canT (canW w)=true):∃ v,dec w=some v∧uE v=some [v]∧enc v=canW w∧∀ c off,wrP [v] c off=some (vP c (yG off) (canW w)):=by
 obtain ⟨h1,h2⟩:=jH h
 have hs:∃ v,dec w=some v:=by
  rcases hd:dec w with _|v
  ·exfalso
   have h0:¬ (1≤yO w∧yO w≤64):=fun ⟨a,b⟩=>by
    obtain ⟨v,hv⟩:=dec_some a b
    rw [hd] at hv; cases hv
   unfold canW at h1
   cases h5:Nat.beq (Nat.shiftRight (yO w) 3) 4 with
   | true =>
    have h5:=wJ h5
    rw [uR] at h5
    omega
   | false =>
    rw [h5] at h1
    cases h6:Nat.beq (yO w) 10 with
    | true=>have:=wJ h6; omega
    | false=>rw [h6,hd] at h1; exact absurd h1 (show ¬ xI 0=true by decide)
  ·exact ⟨v,rfl⟩
 obtain ⟨v,hv⟩:=hs
 rw [canW_ok hv] at h1 h2 ⊢
 have hne:enc v≠255:=fun e=>by rw [e] at h1; exact absurd h1 (by decide)
 have h8:enc v≠8:=fun e=>by rw [e] at h2; exact absurd h2 (by decide)
 refine ⟨v,hv,?_,rfl,fun c off=>by simp only [wrP,cond_eq_ite,Nat.beq_eq,if_neg hne]⟩
 cases v with
 | ag l=>exact absurd O hne
 | tu l=>cases l with
  | nil=>exact absurd O h8
  | cons a l=>exact absurd O hne
 | _=>rfl
section
variable (TT:Nat→Option TI)
def stC (p w:Nat) (E:Nat) (k:K0) (fb:Ans) (S:SL) (H:T AO) (nx:Nat) (D:DL) (e n:Nat) (kn:Bool) (c:Nat):Ans :=
 Bool.rec (motive:=fun _=>Ans) fb (k E ⟨S,H.put (.c e n kn (.pk (vP c (yG (f1 p)) w))) (f0 p),nx,D⟩) (Nat.blt (f1 p) n)
def stB (p w:Nat) (E:Nat) (k:K0) (fb:Ans) (S:SL) (H:T AO) (nx:Nat) (D:DL) (o:AO):Ans :=
 AO.rec (motive:=fun _=>Ans) (fun e n kn s=>CT.rec (motive:=fun _=>Ans) (fun _=>fb) (fun _ _=>fb) (stC p w E k fb S H nx D e n kn) (fun _ _=>fb) s) (fun _ _=>fb) (fun _ _ _=>fb) o
def stM (p w:Nat) (E:Nat) (k:K0) (fb:Ans) (S:SL) (H:T AO) (nx:Nat) (D:DL):Ans :=
 Option.rec (motive:=fun _=>Ans) fb (stB p w E k fb S H nx D) (H.get (f0 p))
def st1 (p w:Nat) (E:Nat) (M:Mm) (k:K0) (fb:Ans):Ans:=Bool.rec (motive:=fun _=>Ans) fb (inM M (stM p w E k fb)) (vJ (Nat.beq (yO p) 10) (canT w))
def stG (x y:Nat→Nat) (g:GG):GG:=fun cx E M k=>st1 (x E) (canW (y E)) E M k (g cx E M k)
def alM (b:AO) (d:Nat) (E:Nat) (k:K0) (fb:Ans) (S:SL) (H:T AO) (nx:Nat) (D:DL):Ans:=Bool.rec (motive:=fun _=>Ans) fb (k (vP E (yG d) (mkP nx 0)) ⟨S,H.put b nx,Nat.succ nx,D⟩) (jP nx)
def alG (b:AO) (d:Nat) (g:GG):GG:=fun cx E M k=>inM M (alM b d E k (g cx E M k))
def bxG (t d:Nat) (x:Nat→Nat) (g:GG):GG:=fun cx E M k=>Bool.rec (motive:=fun _=>Ans) (g cx E M k) (inM M (alM (.c t 1 true (.pk (vP 0 256 (canW (x E))))) d E k (g cx E M k))) (canT (canW (x E)))
def mkS (a b c d:Nat):Nat:=Nat.add 12 (Nat.add (Nat.add (Nat.mul 256 a) (Nat.mul 4294967296 b)) (Nat.add (Nat.mul 72057594037927936 c) (Nat.mul 1208925819614629174706176 d)))
def bsM (e w d:Nat) (E:Nat) (k:K0) (fb:Ans) (S:SL) (H:T AO) (nx:Nat) (D:DL):Ans:=Bool.rec (motive:=fun _=>Ans) fb (k (vP E (yG d) (mkS nx 0 1 1)) ⟨S,H.put (.c e 1 true (.pk (vP 0 256 w))) nx,Nat.succ nx,D⟩) (jP nx)
def bsG (e d:Nat) (x:Nat→Nat) (g:GG):GG:=fun cx E M k=>Bool.rec (motive:=fun _=>Ans) (g cx E M k) (inM M (bsM e (canW (x E)) d E k (g cx E M k))) (canT (canW (x E)))
def pkO (o:Option AO) (fb:Ans) (f:Nat→Nat→Bool→Nat→Ans):Ans:=Option.rec (motive:=fun _=>Ans) fb (fun o=>AO.rec (motive:=fun _=>Ans) (fun e n kn s=>CT.rec (motive:=fun _=>Ans) (fun _=>fb) (fun _ _=>fb) (fun c=>f e n kn c) (fun _ _=>fb) s) (fun _ _=>fb) (fun _ _ _=>fb) o) o
def apB (x d:Nat) (E:Nat) (k:K0) (fb:Ans) (S:SL) (H:T AO) (nx:Nat) (D:DL) (ws:Nat) (e n:Nat) (kn:Bool) (c:Nat):Ans :=
 Bool.rec (motive:=fun _=>Ans) fb (k (vP E (yG d) (mkS (f0 x) (f1 x) (Nat.succ (f2 x)) (f3 x))) ⟨S,H.put (.c e n kn (.pk (vP c (yG (Nat.add (f1 x) (f2 x))) ws))) (f0 x),nx,D⟩) (Nat.ble (Nat.add (f1 x) (Nat.succ (f2 x))) n)
def apC (x d:Nat) (E:Nat) (k:K0) (fb:Ans) (S:SL) (H:T AO) (nx:Nat) (D:DL) (ws:Nat):Ans:=Bool.rec (motive:=fun _=>Ans) fb (pkO (H.get (f0 x)) fb (apB x d E k fb S H nx D ws)) (canT ws)
def apD (x y d:Nat) (E:Nat) (k:K0) (fb:Ans) (S:SL) (H:T AO) (nx:Nat) (D:DL) (e n:Nat) (kn:Bool) (c:Nat):Ans :=
 Bool.rec (motive:=fun _=>Ans) fb (apC x d E k fb S H nx D (canW (yT c (yG (f1 y))))) (Nat.blt (f1 y) n)
def apM (x y d:Nat) (E:Nat) (k:K0) (fb:Ans) (S:SL) (H:T AO) (nx:Nat) (D:DL):Ans :=
 Bool.rec (motive:=fun _=>Ans) fb (pkO (H.get (f0 y)) fb (apD x y d E k fb S H nx D)) (vJ (Nat.beq (yO x) 12) (vJ (isSl (yO y)) (vJ (Nat.beq (f2 y) 1) (Nat.blt (f2 x) (f3 x)))))
def apG (d:Nat) (x y:Nat→Nat) (g:GG):GG:=fun cx E M k=>inM M (apM (x E) (y E) d E k (g cx E M k))
structure An where
 mk ::
 run:Nat→Nat→Nat
def anC (i:Nat) (x:Nat→Nat) (r:An) (E acc:Nat):Nat:=r.run E (vP acc (yG i) (x E))
def argC :List Operand→Nat→An
 | [],_=>.mk fun _ acc=>acc
 | x::l,i=>.mk (anC i (gW x).run (argC l (Nat.succ i)))
structure Bn where
 mk ::
 run:Nat→Bool
def bnC (x:Nat→Nat) (r:Bn) (E:Nat):Bool:=vJ (xI (x E)) (r.run E)
def argT :List Operand→Bn
 | []=>.mk fun _=>true
 | x::l=>.mk (bnC (gW x).run (argT l))
def retK (o:Option Nat) (E:Nat) (S:SL) (D:DL) (k:K0) (w:Nat) (v:AV) (H:T AO) (nx:Nat):Ans:=putO w v o E ⟨S,H,nx,D⟩ k
def caM (R:RT) (f m E0:Nat) (o:Option Nat) (E:Nat) (k:K0) (S:SL) (H:T AO) (nx:Nat) (D:DL):Ans:=R.rw f E0 m H nx (retK o E S D k)
def caG (f m:Nat) (a:An) (b:Bn) (o:Option Nat) (g:GG):GG:=fun cx E M k=>Bool.rec (motive:=fun _=>Ans) (g cx E M k) (inM M (caM cx.R f m (a.run E 0) o E k)) (b.run E)
def effG (op:Op) (o:Option Nat):Gn:=match op with
 | .store t x y=>match o with
  | some _=>.mk (jY TT op o)
  | none=>match vF TT t with
   | some 1=>.mk (stG (gW x).run (gW y).run (jY TT op o))
   | _=>.mk (jY TT op o)
 | .alloc t=>match o with
  | none=>.mk (jY TT op o)
  | some d=>match zerT TT t with
   | none=>.mk (jY TT op o)
   | some z=>match uE z with
    | none=>.mk (jY TT op o)
    | some l=>.mk (alG (blkA t l) d (jY TT op o))
 | .box t x=>match o with
  | none=>.mk (jY TT op o)
  | some d=>.mk (bxG t d (gW x).run (jY TT op o))
 | .buildSlice t len parts=>match o with
  | none=>.mk (jY TT op o)
  | some d=>match len with
   | 1=>match parts.toList with
    | [(0,x)]=>match jF TT t with
     | some (.slice e)=>match vF TT e with
      | some 1=>match zerT TT e with
       | none=>.mk (jY TT op o)
       | some z=>match uE z with
        | some [_]=>.mk (bsG e d (gW x).run (jY TT op o))
        | _=>.mk (jY TT op o)
      | _=>.mk (jY TT op o)
     | _=>.mk (jY TT op o)
    | _=>.mk (jY TT op o)
   | _=>.mk (jY TT op o)
 | .call c=>match c.callee with
  | .builtin .append=>match o with
   | none=>.mk (jY TT op o)
   | some d=>match c.args.toList with
    | [x,y]=>match c.argTypes.toList with
     | [t,tx]=>match jF TT t with
      | some (.slice e)=>match vF TT e with
       | some 1=>match bytT TT e with
        | none=>.mk (jY TT op o)
        | some by'=>bif Nat.blt 0 by' then (match jF TT tx with
         | some (.slice _)=>.mk (apG d (gW x).run (gW y).run (jY TT op o))
         | _=>.mk (jY TT op o)) else .mk (jY TT op o)
       | _=>.mk (jY TT op o)
      | _=>.mk (jY TT op o)
     | _=>.mk (jY TT op o)
    | _=>.mk (jY TT op o)
  | .value (.func f)=>.mk (caG f c.args.toList.length (argC c.args.toList 0) (argT c.args.toList) o (jY TT op o))
  | _=>.mk (jY TT op o)
 | _=>.mk (jY TT op o)
def opG (op:Op) (o:Option Nat):Gn:=match o with
 | none=>effG TT op o
 | some d=>match wfO TT op with
  | some f=>.mk (fastG f.run d (jY TT op o))
  | none=>effG TT op o
def guardG (w:Bool) (d:Nat) (o:Option Nat) (g:GG):GG:=fun cx E M k =>
 bif Nat.beq (yO (yT E (yG d))) (bif w then 9 else 1) then g cx E M k else
 bif or (Nat.beq (yO (yT E (yG d))) (bif w then 1 else 9)) (Nat.beq (yO (yT E (yG d))) 8) then putO 8 wC o E M k else stop cx 1 o
def skpG (o:Option Nat):GG:=fun cx E M k=>putO 8 wC o E M k
def gdG (ops:Array Oper) (o:Oper) (g:Gn):Gn:=match o.guard with
 | none=>g
 | some (j,w)=>match (ops[j]?).bind (·.dst) with
  | none=>.mk (skpG o.dst)
  | some d=>.mk (guardG w d o.dst g.run)
def cOp (n:Nat) (ops:Array Oper) (o:Oper):Gn:=bif uI n o.dst then gdG ops o (opG TT o.op o.dst) else .mk fun cx _ _ _=>stop cx 3 none
def nilFF :FF:=fun cx E M k _=>k E M
def jN (o:Gn) (r:Fn):FF:=fun cx E M k a=>o.run cx E M fun E M=>r.run cx E M k a
def cL (n:Nat) (ops:Array Oper):List Oper→Fn
 | []=>.mk nilFF
 | o::l=>.mk (jN (cOp TT n ops o) (cL n ops l))
end
section
variable (TT:Nat→Option TI) (FT:Nat→Option Func) (SM:T jJ)
def Ev (t:Tk) (r:Rs):Prop:=∃ F,∀ F',F≤F'→exec TT FT SM F' t=r
structure RR (R:RT):Prop where
 v:∀ {b k vs H nx} {K:KV} {z:Eff},R.rv b k vs H nx K=.g z→∃ v w v' H' nx',Ev TT FT SM (bif b then .fn k vs H nx else .dfn k vs H nx) (.val v H' nx')∧VW w v' v∧K w v' H' nx'=.g z
 w:∀ {k E m vs H nx} {K:KV} {z:Eff},R.rw k E m H nx K=.g z→vs.length=m→yS E []=uJ vs En.e 0→∃ v w v' H' nx',Ev TT FT SM (.fn k vs H nx) (.val v H' nx')∧VW w v' v∧K w v' H' nx'=.g z
end
theorem und_vw :VW 8 wC wC:=.inr ⟨by decide,rfl,by decide⟩
section
variable {TT:Nat→Option TI} {FT:Nat→Option Func} {SM:T jJ} {z:Eff}
theorem runL_cons {rec:Tk→Rs} {n:Nat} {ops:Array Oper} {o:Oper} {rest:List Oper} {s:S} (h:uI n o.dst=true):runL TT rec n ops (o::rest) s=match wA ops s.E o.guard with
  | none=>.bad (why 1 o.dst)
  | some false=>runL TT rec n ops rest ⟨wH s.E o.dst wC,s.H,s.nx,s.D⟩
  | some true=>match yU TT s.E s.H s.nx o.op with
   | .val (v,H,nx)=>runL TT rec n ops rest ⟨wH s.E o.dst v,H,nx,s.D⟩
   | .call k vs=>(match rec (.fn k vs s.H s.nx) with
    | .val v H nx=>runL TT rec n ops rest ⟨wH s.E o.dst v,H,nx,s.D⟩
    | .bad w=>.bad w
    | .ok _ _=>.bad 40)
   | .dfr k cap vs=>runL TT rec n ops rest ⟨wH s.E o.dst wC,s.H,s.nx,(k,cap,vs)::s.D⟩
   | .bad=>.bad (why 2 o.dst):=by
 rw [runL,h]; rfl
def DoesO (TT:Nat→Option TI) (FT:Nat→Option Func) (SM:T jJ) (op:Op) (o:Option Nat) (E:Nat) (M:Mm) (k:K0) (z:Eff):Prop :=
 ∃ E' M' v,k E' M'=.g z∧((yU TT (yS E M.S) M.H M.nx op=.val (v,M'.H,M'.nx)∧M'.D=M.D) ∨
  (∃ f vs,yU TT (yS E M.S) M.H M.nx op=.call f vs∧Ev TT FT SM (.fn f vs M.H M.nx) (.val v M'.H M'.nx)∧M'.D=M.D) ∨
  (∃ f cap vs,yU TT (yS E M.S) M.H M.nx op=.dfr f cap vs∧v=wC∧M'.H=M.H∧M'.nx=M.nx∧M'.D=(f,cap,vs)::M.D))∧yS E' M'.S=wH (yS E M.S) o v
theorem abs_inj {E E':Nat} {M M':Mm} {e:En} {H:T AO} {nx:Nat} {D:DL} (h:wD E' M'=⟨e,H,nx,D⟩):yS E' M'.S=e∧M'.H=H∧M'.nx=nx∧M'.D=D:=by
 unfold wD at h
 simp only [S.mk.injEq] at h
 exact h
theorem genG_ok {op:Op} {o:Option Nat} {cx:Cx} {E:Nat} {M:Mm} {k:K0} (hR:RR TT FT SM cx.R) (h:jY TT op o cx E M k=.g z):DoesO TT FT SM op o E M k z:=by
 replace h:outK cx o E M k (yU TT (yS E M.S) M.H M.nx op)=.g z:=h
 match hr:yU TT (yS E M.S) M.H M.nx op,h with
 | .val (v,H,nx),h =>
  obtain ⟨E',M',h1,h2⟩:=putO_ok (enc_vw v) (h:putO (enc v) v o E (M.heap H nx) k=.g z)
  obtain ⟨e1,e2,e3,e4⟩:=abs_inj (E:=E) (M:=M) h1
  exact ⟨E',M',v,h2,.inl ⟨by rw [hr,e2,e3]; rfl,e4⟩,e1⟩
 | .call f vs,h =>
  obtain ⟨v,w,v',H,nx,hE,hw,h⟩:=hR.v h
  obtain ⟨E',M',h1,h2⟩:=putO_ok hw h
  obtain ⟨e1,e2,e3,e4⟩:=abs_inj (E:=E) (M:=M) h1
  exact ⟨E',M',v,h2,.inr (.inl ⟨f,vs,hr,by rw [e2,e3]; exact hE,e4⟩),e1⟩
 | .dfr f cap vs,h =>
  obtain ⟨E',M',h1,h2⟩:=putO_ok und_vw (h:putO 8 wC o E ⟨M.S,M.H,M.nx,(f,cap,vs)::M.D⟩ k=.g z)
  obtain ⟨e1,e2,e3,e4⟩:=abs_inj (E:=E) (M:=M) h1
  exact ⟨E',M',wC,h2,.inr (.inr ⟨f,cap,vs,hr,rfl,e2,e3,e4⟩),e1⟩
 | .bad,h=>exact absurd h (yZ _ _ _)
def GOk (TT:Nat→Option TI) (FT:Nat→Option Func) (SM:T jJ) (op:Op) (o:Option Nat) (g:GG):Prop:=∀ cx E M k z,RR TT FT SM cx.R→g cx E M k=.g z→DoesO TT FT SM op o E M k z
theorem yR {op:Op} {o:Option Nat}:GOk TT FT SM op o (jY TT op o):=fun _ _ _ _ _ hR h=>genG_ok hR h
theorem jA {c:Bool} {x y:Ans} {P:Prop} (h:Bool.rec (motive:=fun _=>Ans) x y c=.g z) (h0:x=.g z→P) (h1:c=true→y=.g z→P):P:=by
 cases c with
 | false=>exact h0 h
 | true=>exact h1 O h
theorem fast_gok {op:Op} {d:Nat} {f:Wf} (hf:WfOk TT op f):GOk TT FT SM op (some d) (fastG f.run d (jY TT op (some d))):=by
 intro cx E M k z hR h
 refine jA (h:fastK (f.run E M) d (jY TT op (some d)) cx E M k=.g z) (yR cx E M k z hR) fun ht h=>?_
 obtain ⟨v,h1,h2⟩:=hf E M ht
 exact ⟨_,M,v,h,.inl ⟨h1,rfl⟩,vM h2⟩
theorem st_gok {t:TypeId} {x y:Operand} (hs:vF TT t=some 1):GOk TT FT SM (.store t x y) none (stG (gW x).run (gW y).run (jY TT (.store t x y) none)):=by
 intro cx E M k z hR h
 replace h:st1 ((gW x).run E) (canW ((gW y).run E)) E M k (jY TT (.store t x y) none cx E M k)=.g z:=h
 refine jA h (yR cx E M k z hR) fun ht h=>?_
 obtain ⟨h1,h2⟩:=jH ht
 have hx:=uM (S:=M.S) h1 dec_ptr (by decide) (by decide)
 obtain ⟨v,h3,h4,h5,h6⟩:=canT_ok h2
 have hy:yV (yS E M.S) y=some v:=by
  obtain ⟨u,e1,_,e2,_⟩:=gW_ok (S:=M.S) (vT h3)
  rw [h3] at e2
  rw [e1,e2]
 replace h:stM ((gW x).run E) (canW ((gW y).run E)) E k (jY TT (.store t x y) none cx E M k) M.S M.H M.nx M.D=.g z:=h
 unfold stM at h
 rcases ho:M.H.get (f0 ((gW x).run E)) with _|ob
 ·rw [ho] at h; exact yR cx E M k z hR h
 ·rw [ho] at h
  cases ob with
  | mp es cl=>exact yR cx E M k z hR h
  | si _ _ _=>exact yR cx E M k z hR h
  | c e n kn s =>
   cases s with
   | pk c =>
    refine jA (h:stC _ _ _ _ _ _ _ _ _ _ _ _ _=.g z) (yR cx E M k z hR) fun hb h=>?_
    refine ⟨E,_,wC,h,.inl ⟨?_,rfl⟩,rfl⟩
    have hb:f1 ((gW x).run E)<n:=blt_t hb
    have hle:Nat.ble (Nat.add (f1 ((gW x).run E)) 1) n=true:=Nat.ble_eq_true_of_le hb
    have e:storeA TT M.H (yS E M.S) M.nx t x y=some (wC,M.H.put (.c e n kn (.pk (vP c (yG (f1 ((gW x).run E))) (canW ((gW y).run E))))) (f0 ((gW x).run E)),M.nx):=by
     unfold storeA
     simp only [hx,hy,h4,ho,hs,List.length_singleton,hle,CT.write,h6]; rfl
    simp only [yU,doE,e,ofE]
   | _=>exact yR cx E M k z hR h
theorem al_step {op:Op} {d:Nat} {b:AO} {cx:Cx} {E:Nat} {M:Mm} {k:K0} (hR:RR TT FT SM cx.R) (he:doE TT (yS E M.S) M.H M.nx op=some (.p M.nx 0,M.H.put b M.nx,Nat.succ M.nx)) (ho:yU TT (yS E M.S) M.H M.nx op=ofE (doE TT (yS E M.S) M.H M.nx op))
  (h:inM M (alM b d E k (jY TT op (some d) cx E M k))=.g z):DoesO TT FT SM op (some d) E M k z:=by
 replace h:alM b d E k (jY TT op (some d) cx E M k) M.S M.H M.nx M.D=.g z:=h
 refine jA h (yR cx E M k z hR) fun hs h=>?_
 exact ⟨_,_,.p M.nx 0,h,.inl ⟨by rw [ho,he]; rfl,rfl⟩,vM (mkP_ok (blt_t hs) (by decide))⟩
theorem al_gok {t d:Nat} {z:AV} {l:List AV} (hz:zerT TT t=some z) (hl:uE z=some l):GOk TT FT SM (.alloc t) (some d) (alG (blkA t l) d (jY TT (.alloc t) (some d))):=by
 intro cx E M k z hR h
 exact al_step (b:=blkA t l) hR (by simp only [doE,allocA,hz,hl]) O h
theorem bx_gok {t d:Nat} {x:Operand}:GOk TT FT SM (.box t x) (some d) (bxG t d (gW x).run (jY TT (.box t x) (some d))):=by
 intro cx E M k z hR h
 refine jA (h:Bool.rec (motive:=fun _=>Ans) _ _ (canT (canW ((gW x).run E)))=.g z) (yR cx E M k z hR) fun ht h=>?_
 obtain ⟨v,h3,h4,h5,h6⟩:=canT_ok ht
 have hx:yV (yS E M.S) x=some v:=by
  obtain ⟨u,e1,_,e2,_⟩:=gW_ok (S:=M.S) (vT h3)
  rw [h3] at e2
  rw [e1,e2]
 refine al_step (b:=.c t 1 true (.pk (vP 0 256 (canW ((gW x).run E))))) hR ?_ rfl h
 have e:blkA t [v]=.c t 1 true (.pk (vP 0 256 (canW ((gW x).run E)))):=by
  unfold blkA cellsOf
  simp only [List.length_singleton]
  rw [show Nat.ble 1 600=true from rfl,cond_true,h6]; rfl
 simp only [doE,boxA,hx,h4,e]
theorem mkS_ok {a b c d:Nat} (ha:a<16777216) (hb:b<16777216) (hc:c<16777216) (hd:d<16777216):WR (mkS a b c d) (.sl a b c d true):=by
 have:=enc_wr (.sl a b c d true)
 have e:enc (.sl a b c d true)=mkS a b c d:=by
  show (bif and (and (jP a) (jP b)) (and (jP c) (jP d)) then _ else 255)=_
  rw [show jP a=true from Nat.ble_eq_true_of_le ha,show jP b=true from Nat.ble_eq_true_of_le hb,show jP c=true from Nat.ble_eq_true_of_le hc,show jP d=true from Nat.ble_eq_true_of_le hd]; rfl
 rw [e] at this
 refine this.resolve_left fun e2=>?_
 have e3:12+(256*a+4294967296*b+(72057594037927936*c+1208925819614629174706176*d))=255:=e2
 omega
theorem f3_lt (w:Nat):f3 w<16777216:=Nat.mod_lt _ (by decide)
theorem f1_lt (w:Nat):f1 w<16777216:=Nat.mod_lt _ (by decide)
theorem bs_gok {t e d:Nat} {parts:Array (Nat × Operand)} {x:Operand} {z z0:AV} (hp:parts.toList=[(0,x)]) (hu:jF TT t=some (.slice e)) (hs:vF TT e=some 1) (hz:zerT TT e=some z) (hl:uE z=some [z0]) :
  GOk TT FT SM (.buildSlice t 1 parts) (some d) (bsG e d (gW x).run (jY TT (.buildSlice t 1 parts) (some d))):=by
 intro cx E M k z hR h
 refine jA (h:Bool.rec (motive:=fun _=>Ans) _ _ (canT (canW ((gW x).run E)))=.g z) (yR cx E M k z hR) fun ht h=>?_
 obtain ⟨v,h3,h4,h5,h6⟩:=canT_ok ht
 have hx:yV (yS E M.S) x=some v:=by
  obtain ⟨u,e1,_,e2,_⟩:=gW_ok (S:=M.S) (vT h3)
  rw [h3] at e2
  rw [e1,e2]
 replace h:bsM e (canW ((gW x).run E)) d E k (jY TT (.buildSlice t 1 parts) (some d) cx E M k) M.S M.H M.nx M.D=.g z:=h
 refine jA h (yR cx E M k z hR) fun hsm h=>?_
 have e1:blkA e [v]=.c e 1 true (.pk (vP 0 256 (canW ((gW x).run E)))):=by
  unfold blkA cellsOf
  simp only [List.length_singleton]
  rw [show Nat.ble 1 600=true from rfl,cond_true,h6]; rfl
 have he:doE TT (yS E M.S) M.H M.nx (.buildSlice t 1 parts)=some (.sl M.nx 0 1 1 true,M.H.put (.c e 1 true (.pk (vP 0 256 (canW ((gW x).run E))))) M.nx,Nat.succ M.nx):=by
  have hf:fillA (fun i=>some (i*1,1)) (repA [z0] 1) [(0,v)]=some [v]:=by
   simp only [fillA,h4]; rfl
  have ho:opndL (yS E M.S) [x]=some [v]:=by simp only [opndL,hx]
  simp only [doE,buildSA,hu,hp,List.map_cons,List.map_nil,ho,hz,hl,hs,pairA,hf,← e1]; rfl
 exact ⟨_,_,.sl M.nx 0 1 1 true,h,.inl ⟨by rw [show yU TT (yS E M.S) M.H M.nx (.buildSlice t 1 parts)=ofE (doE TT (yS E M.S) M.H M.nx (.buildSlice t 1 parts)) from rfl,he]; rfl,rfl⟩,vM (mkS_ok (blt_t hsm) (by decide) (by decide) (by decide))⟩
theorem pkO_split {o:Option AO} {fb:Ans} {f:Nat→Nat→Bool→Nat→Ans} {P:Prop} (h:pkO o fb f=.g z) (h0:fb=.g z→P) (h1:∀ e n kn c,o=some (.c e n kn (.pk c))→f e n kn c=.g z→P):P:=by
 cases o with
 | none=>exact h0 h
 | some b =>
  cases b with
  | mp es cl=>exact h0 h
  | si _ _ _=>exact h0 h
  | c e n kn s =>
   cases s with
   | pk c=>exact h1 e n kn c O h
   | _=>exact h0 h
theorem ap_gok {c:Call} {x y:Operand} {t tx e e2 by' d:Nat} (hc:c.callee=.builtin .append) (ha:c.args.toList=[x,y]) (ht:c.argTypes.toList=[t,tx]) (hu:jF TT t=some (.slice e)) (hs:vF TT e=some 1) (hb:bytT TT e=some by') (hby:Nat.blt 0 by'=true) (hux:jF TT tx=some (.slice e2)) :
  GOk TT FT SM (.call c) (some d) (apG d (gW x).run (gW y).run (jY TT (.call c) (some d))):=by
 intro cx E M k z hR h
 replace h:apM ((gW x).run E) ((gW y).run E) d E k (jY TT (.call c) (some d) cx E M k) M.S M.H M.nx M.D=.g z:=h
 refine jA h (yR cx E M k z hR) fun hc1 h=>?_
 obtain ⟨hc1,hc2⟩:=jH hc1
 obtain ⟨hc2,hc3⟩:=jH hc2
 obtain ⟨hc3,hc4⟩:=jH hc3
 refine pkO_split h (yR cx E M k z hR) fun es ns ks cs hos h=>?_
 refine jA (h:apD _ _ _ _ _ _ _ _ _ _ _ _ _ _=.g z) (yR cx E M k z hR) fun hc5 h=>?_
 refine jA (h:apC _ _ _ _ _ _ _ _ _ _=.g z) (yR cx E M k z hR) fun hc6 h=>?_
 refine pkO_split h (yR cx E M k z hR) fun ed nd kd cd hod h=>?_
 refine jA (h:apB _ _ _ _ _ _ _ _ _ _ _ _ _ _=.g z) (yR cx E M k z hR) fun hc7 h=>?_
 have hx:yV (yS E M.S) x=some (.sl (f0 ((gW x).run E)) (f1 ((gW x).run E)) (f2 ((gW x).run E)) (f3 ((gW x).run E)) true):=gW_dec (wJ hc1) (by decide) (by decide) (dec_slk (wJ hc1))
 obtain ⟨b,hy⟩:=sl_get (S:=M.S) hc2
 obtain ⟨v,h3,h4,h5,h6⟩:=canT_ok hc6
 have hlt:=blt_t hc4
 have hl3:=f3_lt ((gW x).run E)
 have hrd:rdA M.H 1 1 (.sl (f0 ((gW y).run E)) (f1 ((gW y).run E)) 1 (f3 ((gW y).run E)) b)=some [v]:=by
  have hr:readN (.c es ns ks (.pk cs)) 1 (f1 ((gW y).run E))=some [v]:=by
   show (bif Nat.ble (Nat.add (f1 ((gW y).run E)) 1) ns then unpk cs 1 (f1 ((gW y).run E)) else none)=_
   rw [show Nat.ble (Nat.add (f1 ((gW y).run E)) 1) ns=true from hc5]
   simp only [cond_true,unpk,h3]
  simp only [rdA,hos]
  rw [show Nat.ble 1 1=true from rfl]
  exact hr
 have hsrc:srcZ TT M.H e 1 tx (.sl (f0 ((gW y).run E)) (f1 ((gW y).run E)) (f2 ((gW y).run E)) (f3 ((gW y).run E)) b)=some (1,[v]):=by
  rw [wJ hc3]
  simp only [srcZ,srcA,hux,lenN,hrd]
 have hq:Nat.ble (Nat.add (f2 ((gW x).run E)) 1) (f3 ((gW x).run E))=true:=hc4
 have hn:Nat.ble (Nat.add (f1 ((gW x).run E)) (Nat.mul (Nat.add (f2 ((gW x).run E)) 1) 1)) nd=true:=by
  rw [show Nat.mul (Nat.add (f2 ((gW x).run E)) 1) 1=Nat.succ (f2 ((gW x).run E)) from Nat.mul_one _]; exact hc7
 have hap:appA TT M.H M.nx e 1 1 [v] (.sl (f0 ((gW x).run E)) (f1 ((gW x).run E)) (f2 ((gW x).run E)) (f3 ((gW x).run E)) true) =
   some (.sl (f0 ((gW x).run E)) (f1 ((gW x).run E)) (Nat.succ (f2 ((gW x).run E))) (f3 ((gW x).run E)) true,M.H.put (.c ed nd kd (.pk (vP cd (yG (Nat.add (f1 ((gW x).run E)) (f2 ((gW x).run E)))) (canW (yT cs (yG (f1 ((gW y).run E)))))))) (f0 ((gW x).run E)),M.nx):=by
  unfold appA
  rw [show Nat.beq 1 0=false from rfl]
  have hw:CT.write (.pk cd) [v] (Nat.add (f1 ((gW x).run E)) (Nat.mul (f2 ((gW x).run E)) 1))=.pk (vP cd (yG (Nat.add (f1 ((gW x).run E)) (f2 ((gW x).run E)))) (canW (yT cs (yG (f1 ((gW y).run E)))))):=by
   rw [show Nat.mul (f2 ((gW x).run E)) 1=f2 ((gW x).run E) from Nat.mul_one _]
   simp only [CT.write,h6]
  simp only [cond_false,hb,hod,cond_true,hq,hn,hw]
 have he:doE TT (yS E M.S) M.H M.nx (.call c)=appA TT M.H M.nx e 1 1 [v] (.sl (f0 ((gW x).run E)) (f1 ((gW x).run E)) (f2 ((gW x).run E)) (f3 ((gW x).run E)) true):=by
  simp only [doE,hc,appO,ha,ht,hx,hy,hu,hs,hb,hby,hsrc]
  first|done|rfl
 refine ⟨_,_,.sl (f0 ((gW x).run E)) (f1 ((gW x).run E)) (Nat.succ (f2 ((gW x).run E))) (f3 ((gW x).run E)) true,h,.inl ⟨?_,rfl⟩,vM (mkS_ok (f0_lt _) (f1_lt _) (by have:f2 ((gW x).run E)<f3 ((gW x).run E):=hlt; show f2 _+1<_; omega) hl3)⟩
 simp only [yU,hc,he,hap,ofE]
theorem argT_ok :∀ {l:List Operand} {E:Nat} {S:SL},(argT l).run E=true→∃ vs,opndL (yS E S) l=some vs∧∀ i acc,yS ((argC l i).run E acc) []=uJ vs (yS acc []) i
 | [],E,S,h=>⟨[],rfl,fun i acc=>rfl⟩
 | x::l,E,S,h=>by
  obtain ⟨h1,h2⟩:=jH (show vJ (xI ((gW x).run E)) ((argT l).run E)=true from h)
  obtain ⟨v,e1,e2⟩:=gW_ok (S:=S) h1
  obtain ⟨vs,e3,e4⟩:=argT_ok (S:=S) h2
  refine ⟨v::vs,by simp only [opndL,e1,e3],fun i acc=>?_⟩
  show yS ((argC l (Nat.succ i)).run E (vP acc (yG i) ((gW x).run E))) []=_
  rw [e4,vM e2]; rfl
theorem opndL_len :∀ {l:List Operand} {E:En} {vs:List AV},opndL E l=some vs→vs.length=l.length
 | [],E,vs,h=>by simp only [opndL,Option.some.injEq] at h; subst h; rfl
 | x::l,E,vs,h=>by
  simp only [opndL] at h
  split at h
  ·cases h
  ·split at h
   ·cases h
   ·rename_i us hu
    simp only [Option.some.injEq] at h; subst h
    simp [opndL_len hu]
theorem ca_gok {c:Call} {f:Nat} {o:Option Nat} (hc:c.callee=.value (.func f)):GOk TT FT SM (.call c) o (caG f c.args.toList.length (argC c.args.toList 0) (argT c.args.toList) o (jY TT (.call c) o)):=by
 intro cx E M k z hR h
 refine jA (h:Bool.rec (motive:=fun _=>Ans) _ _ ((argT c.args.toList).run E)=.g z) (yR cx E M k z hR) fun ht h=>?_
 obtain ⟨vs,e1,e2⟩:=argT_ok (S:=M.S) ht
 replace h:cx.R.rw f ((argC c.args.toList 0).run E 0) c.args.toList.length M.H M.nx (retK o E M.S M.D k)=.g z:=h
 obtain ⟨v,w,v',H,nx,hE,hw,h⟩:=hR.w h (opndL_len e1) (by rw [e2,view_zero])
 obtain ⟨E',M',h1,h2⟩:=putO_ok hw (h:putO w v' o E ⟨M.S,H,nx,M.D⟩ k=.g z)
 obtain ⟨g1,g2,g3,g4⟩:=abs_inj (E:=E) (M:=M) h1
 refine ⟨E',M',v,h2,.inr (.inl ⟨f,vs,?_,by rw [g2,g3]; exact hE,g4⟩),g1⟩
 have hf:yV (yS E M.S) (.func f)=some (.f f [] []):=rfl
 simp only [yU,hc,hf,e1,List.nil_append,List.append_nil]
theorem effG_ok {op:Op} {o:Option Nat}:GOk TT FT SM op o (effG TT op o).run:=by
 unfold effG
 split
 ·split
  ·exact yR
  ·split
   ·rename_i hs; exact st_gok hs
   ·exact yR
 ·split
  ·exact yR
  ·split
   ·exact yR
   ·rename_i z hz
    split
    ·exact yR
    ·rename_i l hl; exact al_gok hz hl
 ·split
  ·exact yR
  ·exact bx_gok
 ·split
  ·exact yR
  ·split
   ·split
    ·rename_i x hp
     split
     ·rename_i e hu
      split
      ·rename_i hs
       split
       ·exact yR
       ·rename_i z hz
        split
        ·rename_i z0 hl; exact bs_gok hp hu hs hz hl
        ·exact yR
      ·exact yR
     ·exact yR
    ·exact yR
   ·exact yR
 ·split
  ·rename_i hc
   split
   ·exact yR
   ·split
    ·rename_i x y ha
     split
     ·rename_i t tx ht
      split
      ·rename_i e hu
       split
       ·rename_i hs
        split
        ·exact yR
        ·rename_i by' hb
         rcases hby:Nat.blt 0 by' with _|_
         ·exact yR
         ·rw [cond_true]
          split
          ·rename_i e2 hux; exact ap_gok hc ha ht hu hs hb hby hux
          ·exact yR
       ·exact yR
      ·exact yR
     ·exact yR
    ·exact yR
  ·rename_i f hc; exact ca_gok hc
  ·exact yR
 ·exact yR
theorem opG_ok {op:Op} {o:Option Nat}:GOk TT FT SM op o (opG TT op o).run:=by
 unfold opG
 split
 ·exact effG_ok
 ·split
  ·rename_i f hf; exact fast_gok (wfO_ok hf)
  ·exact effG_ok
theorem view_tag {E:Nat} {S:SL} {d:Nat}:(yO (yT E (yG d))=9→(yS E S).get d=some (.b true))∧(yO (yT E (yG d))=1→(yS E S).get d=some (.b false))∧(yO (yT E (yG d))=8→(yS E S).get d=some (.tu [])):=by
 refine ⟨fun h=>?_,fun h=>?_,fun h=>?_⟩<;>rw [view_eq,if_neg (by rw [h]; decide)]
 ·exact dec_t h
 ·exact dec_f h
 ·unfold dec; rw [h]; rfl
def LOk (TT:Nat→Option TI) (FT:Nat→Option Func) (SM:T jJ) (n:Nat) (ops:Array Oper) (o:Oper) (E:Nat) (M:Mm) (k:K0) (z:Eff):Prop:=∃ E' M',k E' M'=.g z∧∃ F,∀ F',F≤F'→∀ rest,runL TT (exec TT FT SM F') n ops (o::rest) (wD E M)=runL TT (exec TT FT SM F') n ops rest (wD E' M')
theorem does_list {n:Nat} {ops:Array Oper} {o:Oper} (hd:uI n o.dst=true) {E:Nat} {M:Mm} {k:K0} (hw:wA ops (yS E M.S) o.guard=some true) (h:DoesO TT FT SM o.op o.dst E M k z):LOk TT FT SM n ops o E M k z:=by
 obtain ⟨E',M',v,h1,h2,h3⟩:=h
 rcases h2 with ⟨h2,h4⟩|⟨f,vs,h2,⟨F,hF⟩,h4⟩|⟨f,cap,vs,h2,rfl,h5,h6,h7⟩
 ·refine ⟨E',M',h1,0,fun F' _ rest=>?_⟩
  rw [runL_cons hd]
  simp only [wD,hw,h2,h3,h4]
 ·refine ⟨E',M',h1,F,fun F' hF' rest=>?_⟩
  have hF:=hF F' hF'
  rw [runL_cons hd]
  simp only [wD,hw,h2,h3,h4,hF]
 ·refine ⟨E',M',h1,0,fun F' _ rest=>?_⟩
  rw [runL_cons hd]
  simp only [wD,hw,h2,h3,h5,h6,h7]
theorem skip_list {n:Nat} {ops:Array Oper} {o:Oper} (hd:uI n o.dst=true) {E:Nat} {M:Mm} {k:K0} (hw:wA ops (yS E M.S) o.guard=some false) (h:putO 8 wC o.dst E M k=.g z):LOk TT FT SM n ops o E M k z:=by
 obtain ⟨E',M',h1,h2⟩:=putO_ok und_vw h
 refine ⟨E',M',h2,0,fun F' _ rest=>?_⟩
 rw [h1,runL_cons hd]
 simp only [wD,hw]
theorem gd_ok {n:Nat} {ops:Array Oper} {o:Oper} (hd:uI n o.dst=true) {g:Gn} (hg:GOk TT FT SM o.op o.dst g.run) {cx:Cx} {E:Nat} {M:Mm} {k:K0} (hR:RR TT FT SM cx.R) (h:(gdG ops o g).run cx E M k=.g z):LOk TT FT SM n ops o E M k z:=by
 unfold gdG at h
 rcases hgd:o.guard with _|⟨j,w⟩
 ·simp only [hgd] at h
  exact does_list hd (by rw [hgd]; rfl) (hg cx E M k z hR h)
 ·simp only [hgd] at h
  rcases hb:(ops[j]?).bind (·.dst) with _|d
  ·simp only [hb] at h
   exact skip_list hd (by rw [hgd]; simp only [wA,hb]) h
  ·simp only [hb] at h
   obtain ⟨t9,t1,t8⟩:=@view_tag E M.S d
   cases w with
   | true =>
    simp only [guardG,cond_true,cond_eq_ite (Nat.beq _ _),cond_eq_ite (or _ _),Nat.beq_eq,Bool.or_eq_true] at h
    split at h
    ·rename_i e; exact does_list hd (by rw [hgd]; simp only [wA,hb,t9 e]; rfl) (hg cx E M k z hR h)
    ·split at h
     ·rename_i e
      rcases e with e|e
      ·exact skip_list hd (by rw [hgd]; simp only [wA,hb,t1 e]; rfl) h
      ·exact skip_list hd (by rw [hgd]; simp only [wA,hb,t8 e]) h
     ·exact absurd h (yZ _ _ _)
   | false =>
    simp only [guardG,cond_false,cond_eq_ite (Nat.beq _ _),cond_eq_ite (or _ _),Nat.beq_eq,Bool.or_eq_true] at h
    split at h
    ·rename_i e; exact does_list hd (by rw [hgd]; simp only [wA,hb,t1 e]; rfl) (hg cx E M k z hR h)
    ·split at h
     ·rename_i e
      rcases e with e|e
      ·exact skip_list hd (by rw [hgd]; simp only [wA,hb,t9 e]; rfl) h
      ·exact skip_list hd (by rw [hgd]; simp only [wA,hb,t8 e]) h
     ·exact absurd h (yZ _ _ _)
theorem cOp_ok {n:Nat} {ops:Array Oper} {o:Oper} {cx:Cx} {E:Nat} {M:Mm} {k:K0} (hR:RR TT FT SM cx.R) (h:(cOp TT n ops o).run cx E M k=.g z):LOk TT FT SM n ops o E M k z:=by
 unfold cOp at h
 by_cases hd:uI n o.dst=true
 ·rw [hd] at h
  exact gd_ok hd opG_ok hR h
 ·rw [Bool.eq_false_iff.2 hd] at h
  exact absurd h (yZ _ _ _)
theorem cL_ok (n:Nat) (ops:Array Oper):∀ (l:List Oper) {cx:Cx} {E:Nat} {M:Mm} {k:K0} {a:Ka},RR TT FT SM cx.R→(cL TT n ops l).run cx E M k a=.g z →
  ∃ E' M',k E' M'=.g z∧∃ F,∀ F',F≤F'→runL TT (exec TT FT SM F') n ops l (wD E M)=.ok .normal (wD E' M')
 | [],cx,E,M,k,a,hR,h=>⟨E,M,h,0,fun F' _=>rfl⟩
 | o::l,cx,E,M,k,a,hR,h=>by
  obtain ⟨E1,M1,h1,F1,g1⟩:=cOp_ok hR (h:(cOp TT n ops o).run cx E M _=.g z)
  obtain ⟨E2,M2,h2,F2,g2⟩:=cL_ok n ops l (cx:=cx) hR h1
  exact ⟨E2,M2,h2,max F1 F2,fun F' hF'=>by rw [g1 F' (by omega),g2 F' (by omega)]⟩
end
end
end Ab
namespace Ab
noncomputable section
abbrev KW :=PW→Nat→Mm→Ans
abbrev GW :=Cx→PW→Nat→Mm→KW→Ans
structure Gw where
 mk ::
 run:GW
structure Wn where
 mk ::
 run:Cx→PW→Nat→Mm→K0→Ans
def delN (E:Nat):List (Nat × Nat × Nat)→Nat
 | []=>E
 | (_,d,_)::F=>vP (delN E F) (yG d) 0
section
variable (TT:Nat→Option TI)
def guardW (w:Bool) (d:Nat) (o:Option Nat) (g:GW):GW:=fun cx W E M k =>
 bif Nat.beq (yO (yT E (yG d))) (bif w then 9 else 1) then g cx W E M k else
 bif or (Nat.beq (yO (yT E (yG d))) (bif w then 1 else 9)) (Nat.beq (yO (yT E (yG d))) 8) then putO 8 wC o E M (k W) else stop cx 1 o
def skipW (o:Option Nat):GW:=fun cx W E M k=>putO 8 wC o E M (k W)
def gdW (ops:Array Oper) (o:Oper) (g:Gw):Gw:=match o.guard with
 | none=>g
 | some (j,w)=>match (ops[j]?).bind (·.dst) with
  | none=>.mk (skipW o.dst)
  | some d=>.mk (guardW w d o.dst g.run)
def quietK (cx:Cx) (E:Nat) (M:Mm) (o:Option Nat) (k:K0):Option AV→Ans
 | some v=>putO (enc v) v o E M k
 | none=>stop cx 7 o
def loadK (cx:Cx) (i t:Nat) (W:PW) (E:Nat) (M:Mm) (o:Option Nat) (k:KW):Option (AV × Nat × Nat)→Ans
 | some (v,id,off)=>putO (enc v) v o E M (k ((i,t,id,off,v)::W))
 | none=>stop cx 6 o
def pureW (op:Op) (o:Option Nat):GW:=fun cx W E M k=>quietK cx E M o (k W) (doP TT (yS E M.S) op)
def fastW (f:Nat→Mm→Nat) (d:Nat) (g:GW):GW:=fun cx W E M k=>Bool.rec (motive:=fun _=>Ans) (g cx W E M k) (k W (vP E (yG d) (f E M)) M) (xI (f E M))
def quietG (op:Op) (o:Option Nat) (i:Nat):Gw:=match op with
 | .load t x=>.mk fun cx W E M k=>loadK cx i t W E M o k (loadO TT (yS E M.S) M.H t x)
 | op=>match o with
  | none=>.mk (pureW TT op o)
  | some d=>match wfO TT op with
   | none=>.mk (pureW TT op o)
   | some f=>.mk (fastW f.run d (pureW TT op o))
def afterK (cx:Cx) (w:Nat) (v:AV) (o:Option Nat) (E:Nat) (M:Mm) (k:KW):Option PW→Ans
 | some W=>putO w v o E M (k W)
 | none=>stop cx 11 o
def effK (cx:Cx) (ops:Array Oper) (i:Nat) (W:PW) (E:Nat) (M:Mm) (o:Option Nat) (k:KW):Out→Ans
 | .val (v,H,nx)=>afterK cx (enc v) v o E (M.heap H nx) k (rechk TT ops i H W)
 | .call f vs=>cx.R.rv true f vs M.H M.nx fun w v H nx=>afterK cx w v o E (M.heap H nx) k (rechk TT ops i H W)
 | _=>stop cx 13 o
def effW (ops:Array Oper) (op:Op) (o:Option Nat) (i:Nat):GW:=fun cx W E M k=>effK TT cx ops i W E M o k (yU TT (yS E M.S) M.H M.nx op)
def nowK (cx:Cx) (d:Nat) (E:Nat) (M:Mm) (k:K0):Option Eff→Ans
 | some (v,H,nx)=>putX (enc v) v d E (M.heap H nx) k
 | none=>stop cx 16 (some d)
def badW (c:Nat):Wn:=.mk fun cx _ _ _ _=>stop cx c none
def thenW (g:Gw) (r:Wn):Wn:=.mk fun cx W E M k=>g.run cx W E M fun W E M=>r.run cx W E M k
def nowG (d t:Nat):Gw:=.mk fun cx W E M k=>nowK cx d E M (k W) (nowA TT (yS E M.S) M.H M.nx t)
def flK (cx:Cx) (d:Nat) (W:PW) (E:Nat) (M:Mm) (k:KW):Option Eff→Ans
 | none=>stop cx 74 (some d)
 | some _=>k W (delN E [(0,d,0)]) M
def flG (d c:Nat):Gw:=.mk fun cx W E M k=>flK cx d W E M k (bldA TT (yS E M.S) M.H M.nx c)
def cW (n:Nat) (ops:Array Oper):List Item→List (Nat × Nat × Nat)→Wn
 | [],_=>.mk fun _ _ E M k=>k E M
 | .q i::rest,F=>match ops[i]? with
  | none=>badW 4
  | some o=>bif and (uI n o.dst) (notIn o.dst F) then thenW (gdW ops o (quietG TT o.op o.dst i)) (cW n ops rest F) else badW 8
 | .e i::rest,F=>match ops[i]? with
  | none=>badW 9
  | some o=>bif and (uI n o.dst) (notIn o.dst F) then thenW (gdW ops o (.mk (effW TT ops o.op o.dst i))) (cW n ops rest F) else badW 14
 | .now j::rest,F=>match F with
  | []=>badW 15
  | (j',d,t)::F'=>bif Nat.beq j j' then thenW (nowG TT d t) (cW n ops rest F') else badW 17
 | .fl j::rest,F=>match ops[j]? with
  | none=>badW 71
  | some o=>match bldC o.op with
   | none=>badW 72
   | some c=>match o.dst with
    | none=>badW 73
    | some d=>bif and (and (Nat.blt d n) (and (notIn (some d) F) (o.guard.isNone))) (and (notJ j F) (not (argIs c d))) then thenW (flG TT d c) (cW n ops rest (F++[(j,d,c)])) else badW 75
end
section
variable {TT:Nat→Option TI} {FT:Nat→Option Func} {SM:T jJ} {z:Eff}
theorem delN_ok {E:Nat} {S:SL}:∀ l,yS (delN E l) S=delF (yS E S) l
 | []=>rfl
 | (_,d,_)::l=>by rw [delN,view_del,delN_ok l]; rfl
def WOk (TT:Nat→Option TI) (FT:Nat→Option Func) (SM:T jJ) (n:Nat) (ops:Array Oper) (it:Item) (F F':List (Nat × Nat × Nat)) (W:PW) (E:Nat) (M:Mm) (k:KW) (z:Eff):Prop :=
 ∃ W' E' M',k W' E' M'=.g z∧∃ B,∀ f,B≤f→∀ rest,vV TT (exec TT FT SM f) n ops (it::rest) F W (wD E M)=vV TT (exec TT FT SM f) n ops rest F' W' (wD E' M')
theorem gdW_ok {n:Nat} {ops:Array Oper} {o:Oper} {it:Item} {F:List (Nat × Nat × Nat)} {g:Gw} {cx:Cx} {W:PW} {E:Nat} {M:Mm} {k:KW}
  (hs:wA ops (yS E M.S) o.guard=some false→∀ rec rest,vV TT rec n ops (it::rest) F W (wD E M)=vV TT rec n ops rest F W ⟨wH (yS E M.S) o.dst wC,M.H,M.nx,M.D⟩)
  (hg:wA ops (yS E M.S) o.guard=some true→g.run cx W E M k=.g z→WOk TT FT SM n ops it F F W E M k z) (h:(gdW ops o g).run cx W E M k=.g z):WOk TT FT SM n ops it F F W E M k z:=by
 have skip:wA ops (yS E M.S) o.guard=some false→putO 8 wC o.dst E M (k W)=.g z→WOk TT FT SM n ops it F F W E M k z:=by
  intro hw h
  obtain ⟨E',M',h1,h2⟩:=putO_ok und_vw h
  exact ⟨W,E',M',h2,0,fun f _ rest=>by rw [h1,hs hw]⟩
 unfold gdW at h
 rcases hgd:o.guard with _|⟨j,w⟩
 ·simp only [hgd] at h
  exact hg (by rw [hgd]; rfl) h
 ·simp only [hgd] at h
  rcases hb:(ops[j]?).bind (·.dst) with _|d
  ·simp only [hb] at h
   exact skip (by rw [hgd]; simp only [wA,hb]) h
  ·simp only [hb] at h
   obtain ⟨t9,t1,t8⟩:=@view_tag E M.S d
   cases w with
   | true =>
    simp only [guardW,cond_true,cond_eq_ite (Nat.beq _ _),cond_eq_ite (or _ _),Nat.beq_eq,Bool.or_eq_true] at h
    split at h
    ·rename_i e; exact hg (by rw [hgd]; simp only [wA,hb,t9 e]; rfl) h
    ·split at h
     ·rename_i e
      rcases e with e|e
      ·exact skip (by rw [hgd]; simp only [wA,hb,t1 e]; rfl) h
      ·exact skip (by rw [hgd]; simp only [wA,hb,t8 e]) h
     ·exact absurd h (yZ _ _ _)
   | false =>
    simp only [guardW,cond_false,cond_eq_ite (Nat.beq _ _),cond_eq_ite (or _ _),Nat.beq_eq,Bool.or_eq_true] at h
    split at h
    ·rename_i e; exact hg (by rw [hgd]; simp only [wA,hb,t1 e]; rfl) h
    ·split at h
     ·rename_i e
      rcases e with e|e
      ·exact skip (by rw [hgd]; simp only [wA,hb,t9 e]; rfl) h
      ·exact skip (by rw [hgd]; simp only [wA,hb,t8 e]) h
     ·exact absurd h (yZ _ _ _)
theorem runW_q {rec:Tk→Rs} {n:Nat} {ops:Array Oper} {i:Nat} {o:Oper} {rest:List Item} {F:List (Nat × Nat × Nat)} {W:PW} {s:S} (hi:ops[i]?=some o) (h:and (uI n o.dst) (notIn o.dst F)=true) :
  vV TT rec n ops (.q i::rest) F W s=match wA ops s.E o.guard with
   | none=>.bad (why 5 o.dst)
   | some false=>vV TT rec n ops rest F W ⟨wH s.E o.dst wC,s.H,s.nx,s.D⟩
   | some true=>match o.op with
    | .load t x=>(match loadO TT s.E s.H t x with
     | some (v,id,off)=>vV TT rec n ops rest F ((i,t,id,off,v)::W) ⟨wH s.E o.dst v,s.H,s.nx,s.D⟩
     | none=>.bad (why 6 o.dst))
    | op=>match doP TT s.E op with
     | some v=>vV TT rec n ops rest F W ⟨wH s.E o.dst v,s.H,s.nx,s.D⟩
     | none=>.bad (why 7 o.dst):=by
 rw [vV,hi]; simp only [h]; rfl
theorem runW_e {rec:Tk→Rs} {n:Nat} {ops:Array Oper} {i:Nat} {o:Oper} {rest:List Item} {F:List (Nat × Nat × Nat)} {W:PW} {s:S} (hi:ops[i]?=some o) (h:and (uI n o.dst) (notIn o.dst F)=true) :
  vV TT rec n ops (.e i::rest) F W s=match wA ops s.E o.guard with
   | none=>.bad (why 10 o.dst)
   | some false=>vV TT rec n ops rest F W ⟨wH s.E o.dst wC,s.H,s.nx,s.D⟩
   | some true=>match yU TT s.E s.H s.nx o.op with
    | .val (v,H,nx)=>(match rechk TT ops i H W with
     | some W'=>vV TT rec n ops rest F W' ⟨wH s.E o.dst v,H,nx,s.D⟩
     | none=>.bad (why 11 o.dst))
    | .call k vs=>(match rec (.fn k vs s.H s.nx) with
     | .val v H nx=>(match rechk TT ops i H W with
      | some W'=>vV TT rec n ops rest F W' ⟨wH s.E o.dst v,H,nx,s.D⟩
      | none=>.bad (why 12 o.dst))
     | .bad w=>.bad w
     | .ok _ _=>.bad 41)
    | _=>.bad (why 13 o.dst):=by
 rw [vV,hi]; simp only [h]; rfl
theorem wf_doP {op:Op} {f:Wf} (hf:wfO TT op=some f) (hl:∀ t x,op≠.load t x) {E:Nat} {M:Mm} (h:xI (f.run E M)=true):∃ v,doP TT (yS E M.S) op=some v∧WR (f.run E M) v:=by
 obtain ⟨v,h1,h2⟩:=wfO_ok hf E M h
 refine ⟨v,?_,h2⟩
 have key:∀ r:Option AV,ofP M.H M.nx r=.val (v,M.H,M.nx)→r=some v:=fun r hr=>by
  cases r with
  | none=>cases hr
  | some u=>simp only [ofP,Out.val.injEq,Prod.mk.injEq] at hr; rw [hr.1]
 have key2:∀ (r:Option AV) (op:Op),(match r with|some v=>Out.val (v,M.H,M.nx)|none=>ofE (doE TT (yS E M.S) M.H M.nx op))=.val (v,M.H,M.nx)→doE TT (yS E M.S) M.H M.nx op=none→r=some v:=fun r op hr hn=>by
  cases r with
  | none=>simp only [hn] at hr; cases hr
  | some u=>simp only [Out.val.injEq,Prod.mk.injEq] at hr; rw [hr.1]
 cases op with
 | load t x=>exact absurd O (hl _ _)
 | move x=>exact key _ h1
 | assign x=>exact key _ h1
 | nilCheck x=>exact key _ h1
 | pick c x y=>exact key _ h1
 | unOp o t x=>exact key _ h1
 | fieldAddr t x k=>exact key _ h1
 | indexAddr t x y=>exact key _ h1
 | extract x k=>exact key _ h1
 | binOp o t x y ty=>exact key2 _ _ h1 O
 | convert s d x=>exact key2 _ _ h1 O
 | call c =>
  have hc:c.callee=.builtin .len∧∃ x t e,c.args.toList=[x]∧c.argTypes.toList=[t]∧jF TT t=some (.slice e):=by
   simp only [wfO] at hf
   split at hf
   ·rename_i h0
    refine ⟨h0,?_⟩
    split at hf
    ·rename_i x hx
     split at hf
     ·rename_i t ht
      split at hf
      ·rename_i e he; exact ⟨x,t,e,hx,ht,he⟩
      ·cases hf
     ·cases hf
    ·cases hf
   ·cases hf
  obtain ⟨hc,x,t,e,hx,ht,he⟩:=hc
  simp only [yU,hc] at h1
  refine key2 _ _ h1 ?_
  simp only [doE,hc,lnO,hx,ht]
  split
  ·rfl
  ·simp only [lenMA,he]
 | _=>cases hf
theorem quiet_ok {n:Nat} {ops:Array Oper} {i:Nat} {o:Oper} {F:List (Nat × Nat × Nat)} {cx:Cx} {W:PW} {E:Nat} {M:Mm} {k:KW} (hi:ops[i]?=some o) (hd:and (uI n o.dst) (notIn o.dst F)=true)
  (h:(gdW ops o (quietG TT o.op o.dst i)).run cx W E M k=.g z):WOk TT FT SM n ops (.q i) F F W E M k z:=by
 refine gdW_ok (fun hw rec rest=>by rw [runW_q hi hd]; simp only [wD,hw]) (fun hw h=>?_) h
 have load:∀ t x,o.op=.load t x→loadK cx i t W E M o.dst k (loadO TT (yS E M.S) M.H t x)=.g z→WOk TT FT SM n ops (.q i) F F W E M k z:=by
  intro t x ho h
  rcases hl:loadO TT (yS E M.S) M.H t x with _|⟨v,id,off⟩
  ·rw [hl] at h; exact absurd h (yZ _ _ _)
  ·rw [hl] at h
   obtain ⟨E',M',h1,h2⟩:=putO_ok (enc_vw v) h
   exact ⟨_,E',M',h2,0,fun f _ rest=>by rw [h1,runW_q hi hd]; simp only [wD,hw,ho,hl]⟩
 have val:∀ v,(∀ t x,o.op≠.load t x)→doP TT (yS E M.S) o.op=some v→(∃ E' M',wD E' M'=⟨wH (yS E M.S) o.dst v,M.H,M.nx,M.D⟩∧k W E' M'=.g z)→WOk TT FT SM n ops (.q i) F F W E M k z:=by
  rintro v ho hl ⟨E',M',h1,h2⟩
  refine ⟨W,E',M',h2,0,fun f _ rest=>?_⟩
  rw [h1,runW_q hi hd]
  simp only [wD,hw,hl]
 have pure:(∀ t x,o.op≠.load t x)→pureW TT o.op o.dst cx W E M k=.g z→WOk TT FT SM n ops (.q i) F F W E M k z:=by
  intro ho h
  replace h:quietK cx E M o.dst (k W) (doP TT (yS E M.S) o.op)=.g z:=h
  rcases hl:doP TT (yS E M.S) o.op with _|v
  ·rw [hl] at h; exact absurd h (yZ _ _ _)
  ·rw [hl] at h
   exact val v ho hl (putO_ok (enc_vw v) h)
 by_cases hlo:∃ t x,o.op=.load t x
 ·obtain ⟨t,x,ho⟩:=hlo
  rw [ho] at h
  exact load t x ho h
 ·have hlo:∀ t x,o.op≠.load t x:=fun t x e=>hlo ⟨t,x,e⟩
  have hq:quietG TT o.op o.dst i=match o.dst with
   | none=>.mk (pureW TT o.op o.dst)
   | some d=>match wfO TT o.op with
    | none=>.mk (pureW TT o.op o.dst)
    | some f=>.mk (fastW f.run d (pureW TT o.op o.dst)):=by
   cases ho:o.op<;>first|rfl|exact absurd ho (hlo _ _)
  rw [hq] at h
  rcases hds:o.dst with _|d
  ·simp only [hds] at h
   rw [← hds] at h
   exact pure hlo h
  ·rcases hwf:wfO TT o.op with _|f
   ·simp only [hds,hwf] at h
    rw [← hds] at h
    exact pure hlo h
   ·simp only [hds,hwf] at h
    rw [← hds] at h
    refine jA (h:Bool.rec (motive:=fun _=>Ans) _ _ (xI (f.run E M))=.g z) (pure hlo) fun ht h=>?_
    obtain ⟨v,h1,h2⟩:=wf_doP hwf hlo ht
    exact val v hlo h1 ⟨_,M,by unfold wD; rw [vM h2,hds]; rfl,h⟩
theorem eff_ok {n:Nat} {ops:Array Oper} {i:Nat} {o:Oper} {F:List (Nat × Nat × Nat)} {cx:Cx} {W:PW} {E:Nat} {M:Mm} {k:KW} (hR:RR TT FT SM cx.R) (hi:ops[i]?=some o) (hd:and (uI n o.dst) (notIn o.dst F)=true)
  (h:(gdW ops o (.mk (effW TT ops o.op o.dst i))).run cx W E M k=.g z):WOk TT FT SM n ops (.e i) F F W E M k z:=by
 refine gdW_ok (fun hw rec rest=>by rw [runW_e hi hd]; simp only [wD,hw]) (fun hw h=>?_) h
 replace h:effK TT cx ops i W E M o.dst k (yU TT (yS E M.S) M.H M.nx o.op)=.g z:=h
 match hr:yU TT (yS E M.S) M.H M.nx o.op,h with
 | .val (v,H,nx),h =>
  replace h:afterK cx (enc v) v o.dst E (M.heap H nx) k (rechk TT ops i H W)=.g z:=h
  rcases hc:rechk TT ops i H W with _|W'
  ·rw [hc] at h; exact absurd h (yZ _ _ _)
  ·rw [hc] at h
   obtain ⟨E',M',h1,h2⟩:=putO_ok (enc_vw v) h
   exact ⟨W',E',M',h2,0,fun f _ rest=>by rw [h1,runW_e hi hd]; simp only [wD,hw,hr,hc]; rfl⟩
 | .call f vs,h =>
  obtain ⟨v,w,v',H,nx,⟨B,hB⟩,hvw,h⟩:=hR.v h
  rcases hc:rechk TT ops i H W with _|W'
  ·rw [hc] at h; exact absurd h (yZ _ _ _)
  ·rw [hc] at h
   obtain ⟨E',M',h1,h2⟩:=putO_ok hvw h
   refine ⟨W',E',M',h2,B,fun f hf rest=>?_⟩
   have hB:=hB f hf
   simp only [cond_true] at hB
   rw [h1,runW_e hi hd]; simp only [wD,hw,hr,hc,hB]; rfl
 | .dfr f cap vs,h=>exact absurd h (yZ _ _ _)
 | .bad,h=>exact absurd h (yZ _ _ _)
theorem cW_ok (n:Nat) (ops:Array Oper):∀ (l:List Item) (F:List (Nat × Nat × Nat)) {cx:Cx} {W:PW} {E:Nat} {M:Mm} {k:K0},RR TT FT SM cx.R→(cW TT n ops l F).run cx W E M k=.g z →
  ∃ E' M',k E' M'=.g z∧∃ B,∀ f,B≤f→vV TT (exec TT FT SM f) n ops l F W (wD E M)=.ok .normal (wD E' M')
 | [],F,cx,W,E,M,k,hR,h=>⟨E,M,h,0,fun f _=>rfl⟩
 | it::l,F,cx,W,E,M,k,hR,h=>by
  have key:∀ F',WOk TT FT SM n ops it F F' W E M (fun W E M=>(cW TT n ops l F').run cx W E M k) z→∃ E' M',k E' M'=.g z∧∃ B,∀ f,B≤f→vV TT (exec TT FT SM f) n ops (it::l) F W (wD E M)=.ok .normal (wD E' M'):=by
   rintro F' ⟨W1,E1,M1,h1,B1,g1⟩
   obtain ⟨E2,M2,h2,B2,g2⟩:=cW_ok n ops l F' (cx:=cx) hR h1
   exact ⟨E2,M2,h2,max B1 B2,fun f hf=>by rw [g1 f (by omega),g2 f (by omega)]⟩
  cases it with
  | q i =>
   simp only [cW] at h
   split at h
   ·exact absurd h (yZ _ _ _)
   ·rename_i o hi
    rw [cond_eq_ite] at h
    split at h
    ·rename_i hd
     exact key F (quiet_ok hi hd h)
    ·exact absurd h (yZ _ _ _)
  | e i =>
   simp only [cW] at h
   split at h
   ·exact absurd h (yZ _ _ _)
   ·rename_i o hi
    rw [cond_eq_ite] at h
    split at h
    ·rename_i hd
     exact key F (eff_ok hR hi hd h)
    ·exact absurd h (yZ _ _ _)
  | fl j =>
   simp only [cW] at h
   split at h
   ·exact absurd h (yZ _ _ _)
   ·rename_i o ho
    split at h
    ·exact absurd h (yZ _ _ _)
    ·rename_i c hc
     split at h
     ·exact absurd h (yZ _ _ _)
     ·rename_i d hd
      rw [cond_eq_ite] at h
      split at h
      ·rename_i hcond
       refine key (F++[(j,d,c)]) ?_
       replace h:flK cx d W E M (fun W E M=>(cW TT n ops l (F++[(j,d,c)])).run cx W E M k) (bldA TT (yS E M.S) M.H M.nx c)=.g z:=h
       rcases hb:bldA TT (yS E M.S) M.H M.nx c with _|r
       ·rw [hb] at h; exact absurd h (yZ _ _ _)
       ·rw [hb] at h
        refine ⟨W,delN E [(0,d,0)],M,h,0,fun f _ rest=>?_⟩
        rw [vV]
        simp only [ho,hc,hd,hcond,wD,hb,delN_ok,delF]
        rfl
      ·exact absurd h (yZ _ _ _)
  | now j =>
   cases F with
   | nil=>simp only [cW] at h; exact absurd h (yZ _ _ _)
   | cons x F' =>
    obtain ⟨j',d,t⟩:=x
    simp only [cW,cond_eq_ite] at h
    split at h
    ·rename_i hj
     refine key F' ?_
     replace h:nowK cx d E M ((fun W E M=>(cW TT n ops l F').run cx W E M k) W) (nowA TT (yS E M.S) M.H M.nx t)=.g z:=h
     rcases ha:nowA TT (yS E M.S) M.H M.nx t with _|⟨v,H,nx⟩
     ·rw [ha] at h; exact absurd h (yZ _ _ _)
     ·rw [ha] at h
      replace h:putX (enc v) v d E (M.heap H nx) ((fun W E M=>(cW TT n ops l F').run cx W E M k) W)=.g z:=h
      obtain ⟨E',M',h1,h2⟩:=putX_ok (enc_vw v) h
      exact ⟨W,E',M',h2,0,fun f _ rest=>by rw [h1,vV]; simp only [hj,wD,ha]; rfl⟩
    ·exact absurd h (yZ _ _ _)
end
end
end Ab
namespace Ab
noncomputable section
theorem raw_f {w d:Nat} {g:GG} {cx:Cx} {E:Nat} {M:Mm} {k:K0}:fastK (wB false w) d g cx E M k=g cx E M k:=by
 have e:wB false w=0:=rfl
 rw [e]
 unfold fastK
 rw [show xI 0=false by decide]
theorem bW_not (b:Bool):bW (not b)=Bool.rec (motive:=fun _=>Nat) 9 1 b:=by cases b<;>rfl
theorem uC {c:Bool} {w d:Nat} {g:GG} {cx:Cx} {E:Nat} {M:Mm} {k:K0} (h:xI w=true):fastK (wB c w) d g cx E M k=Bool.rec (motive:=fun _=>Ans) (g cx E M k) (k (vP E (yG d) w) M) c:=by
 cases c with
 | false=>exact raw_f
 | true=>show Bool.rec (motive:=fun _=>Ans) _ _ (xI w)=_; rw [h]; rfl
theorem tag_mkI (k:IntKind) {u:Nat} (h:u<2 ^ 64):xI (mkI (kc k) u)=true:=vT (mkI_ok (k:=k) h).2.1
theorem tag_bW (b:Bool):xI (bW b)=true:=by cases b<;>rfl
theorem tag_mkP {a b:Nat} (ha:a<16777216) (hb:b<16777216):xI (mkP a b)=true:=vT (mkP_ok ha hb).2.1
def Hd (f:Nat→Mm→Nat) (d:Nat) (g:GG) (r:Fn):FF:=jN (.mk (fastG f d g)) r
def movR (s sd K:Nat) (fb r:Fn):FF:=fun cx E M k a=>(fun x=>(Bool.rec (motive:=fun _=>Ans) (fb.run cx E M k a) (r.run cx (Nat.xor E (Nat.mul (Nat.xor (Nat.mod (Nat.shiftRight E sd) 340282366920938463463374607431768211456) x) K)) M k a) (Nat.beq (Nat.shiftRight (Nat.add (Nat.mod x 256) 63) 6) 1))) (Nat.mod (Nat.shiftRight E s) 340282366920938463463374607431768211456)
theorem movR_eq {t d:Nat} {g:GG} {r:Fn}:movR (yG t) (yG d) (kS (yG d)) (.mk (jN (.mk g) r)) r=Hd (movF (gS (yG t))) d g r:=rfl
def conR (w sd K:Nat) (r:Fn):FF:=fun cx E M k a=>(r.run cx (Nat.xor E (Nat.mul (Nat.xor (Nat.mod (Nat.shiftRight E sd) 340282366920938463463374607431768211456) w) K)) M k a)
theorem conR_eq {w d:Nat} {g:GG} {r:Fn} (h:xI w=true):conR w (yG d) (kS (yG d)) r=Hd (movF (gC w)) d g r:=by
 funext cx E M k a
 symm
 show Bool.rec (motive:=fun _=>Ans) _ _ (xI w)=_
 rw [h]; rfl
def nilR (s sd K:Nat) (fb r:Fn):FF:=fun cx E M k a=>(fun x=>(Bool.rec (motive:=fun _=>Ans) (fb.run cx E M k a) (r.run cx (Nat.xor E (Nat.mul (Nat.xor (Nat.mod (Nat.shiftRight E sd) 340282366920938463463374607431768211456) x) K)) M k a) (Nat.beq (Nat.mod x 256) 10))) (Nat.mod (Nat.shiftRight E s) 340282366920938463463374607431768211456)
theorem nilR_eq {t d:Nat} {g:GG} {r:Fn}:nilR (yG t) (yG d) (kS (yG d)) (.mk (jN (.mk g) r)) r=Hd (nilF (gS (yG t))) d g r:=by
 funext cx E M k a
 show Bool.rec (motive:=fun _=>Ans) _ _ (Nat.beq (yO (yT E (yG t))) 10)=fastK (nil1 (yT E (yG t))) d g cx E M _
 unfold nil1
 rcases hc:Nat.beq (yO (yT E (yG t))) 10 with _|_
 ·exact raw_f.symm
 ·symm
  show Bool.rec (motive:=fun _=>Ans) _ _ (xI (yT E (yG t)))=_
  rw [show xI (yT E (yG t))=true from tagOK_iff.2 (by have:=wJ hc; omega)]; rfl
def fldR (f s sd K:Nat) (fb r:Fn):FF:=fun cx E M k a=>(fun x=>(Bool.rec (motive:=fun _=>Ans) (fb.run cx E M k a) (r.run cx (Nat.xor E (Nat.mul (Nat.xor (Nat.mod (Nat.shiftRight E sd) 340282366920938463463374607431768211456) (Nat.add 10 (Nat.add (Nat.mul 256 (Nat.mod (Nat.shiftRight x 8) 16777216)) (Nat.mul 4294967296 (Nat.add (Nat.mod (Nat.shiftRight x 32) 16777216) f))))) K)) M k a) (Bool.rec (motive:=fun _=>Bool) false (Nat.ble (Nat.succ (Nat.add (Nat.mod (Nat.shiftRight x 32) 16777216) f)) 16777216) (Nat.beq (Nat.mod x 256) 10)))) (Nat.mod (Nat.shiftRight E s) 340282366920938463463374607431768211456)
theorem fldR_eq {f t d:Nat} {g:GG} {r:Fn}:fldR f (yG t) (yG d) (kS (yG d)) (.mk (jN (.mk g) r)) r=Hd (fldF f (gS (yG t))) d g r:=by
 funext cx E M k a
 show Bool.rec (motive:=fun _=>Ans) _ _ (vJ (Nat.beq (yO (yT E (yG t))) 10) (jP (Nat.add (f1 (yT E (yG t))) f)))=fastK (fld1 f (yT E (yG t))) d g cx E M _
 unfold fld1
 rcases hc:vJ (Nat.beq (yO (yT E (yG t))) 10) (jP (Nat.add (f1 (yT E (yG t))) f)) with _|_
 ·exact raw_f.symm
 ·symm
  show Bool.rec (motive:=fun _=>Ans) _ _ (xI (mkP (f0 (yT E (yG t))) (Nat.add (f1 (yT E (yG t))) f)))=_
  rw [tag_mkP (f0_lt _) (blt_t (jH hc).2)]; rfl
def addTT (c C p h s1 s2 sd K:Nat) (fb r:Fn):FF:=fun cx E M k a=>(fun x y=>(Bool.rec (motive:=fun _=>Ans) (fb.run cx E M k a) (r.run cx (Nat.xor E (Nat.mul (Nat.xor (Nat.mod (Nat.shiftRight E sd) 340282366920938463463374607431768211456) (Nat.add c (Nat.mul 256 (Nat.mod (Nat.add (Nat.mod (Nat.shiftRight x 8) 18446744073709551616) (Nat.mod (Nat.shiftRight y 8) 18446744073709551616)) p)))) K)) M k a) (Nat.beq (Nat.add (Nat.mod x 256) (Nat.mul 256 (Nat.mod y 256))) C))) (Nat.mod (Nat.shiftRight E s1) 340282366920938463463374607431768211456) (Nat.mod (Nat.shiftRight E s2) 340282366920938463463374607431768211456)
theorem addTT_eq {k:IntKind} {t1 t2 d:Nat} {g:GG} {r:Fn}:addTT (kc k) (Nat.mul 257 (kc k)) (pwK k) (hfK k) (yG t1) (yG t2) (yG d) (kS (yG d)) (.mk (jN (.mk g) r)) r=Hd (binF (kc k) (ariW (kc k) (addX (pwK k))) (gS (yG t1)) (gS (yG t2))) d g r:=by
 funext cx E M k' a
 symm
 exact uC (c:=twoK _ _ _) (tag_mkI k (Nat.lt_of_lt_of_le (Nat.mod_lt _ (uN k)) (pw_le k)))
def addTC (c C p h s1 s2 sd K:Nat) (fb r:Fn):FF:=fun cx E M k a=>(fun x y=>(Bool.rec (motive:=fun _=>Ans) (fb.run cx E M k a) (r.run cx (Nat.xor E (Nat.mul (Nat.xor (Nat.mod (Nat.shiftRight E sd) 340282366920938463463374607431768211456) (Nat.add c (Nat.mul 256 (Nat.mod (Nat.add (Nat.mod (Nat.shiftRight x 8) 18446744073709551616) (Nat.mod (Nat.shiftRight y 8) 18446744073709551616)) p)))) K)) M k a) (Nat.beq (Nat.add (Nat.mod x 256) (Nat.mul 256 (Nat.mod y 256))) C))) (Nat.mod (Nat.shiftRight E s1) 340282366920938463463374607431768211456) s2
theorem addTC_eq {k:IntKind} {t1 w2 d:Nat} {g:GG} {r:Fn}:addTC (kc k) (Nat.mul 257 (kc k)) (pwK k) (hfK k) (yG t1) w2 (yG d) (kS (yG d)) (.mk (jN (.mk g) r)) r=Hd (binF (kc k) (ariW (kc k) (addX (pwK k))) (gS (yG t1)) (gC w2)) d g r:=by
 funext cx E M k' a
 symm
 exact uC (c:=twoK _ _ _) (tag_mkI k (Nat.lt_of_lt_of_le (Nat.mod_lt _ (uN k)) (pw_le k)))
def subTT (c C p h s1 s2 sd K:Nat) (fb r:Fn):FF:=fun cx E M k a=>(fun x y=>(Bool.rec (motive:=fun _=>Ans) (fb.run cx E M k a) (r.run cx (Nat.xor E (Nat.mul (Nat.xor (Nat.mod (Nat.shiftRight E sd) 340282366920938463463374607431768211456) (Nat.add c (Nat.mul 256 (Nat.mod (Nat.add (Nat.mod (Nat.shiftRight x 8) 18446744073709551616) (Nat.sub p (Nat.mod (Nat.shiftRight y 8) 18446744073709551616))) p)))) K)) M k a) (Nat.beq (Nat.add (Nat.mod x 256) (Nat.mul 256 (Nat.mod y 256))) C))) (Nat.mod (Nat.shiftRight E s1) 340282366920938463463374607431768211456) (Nat.mod (Nat.shiftRight E s2) 340282366920938463463374607431768211456)
theorem subTT_eq {k:IntKind} {t1 t2 d:Nat} {g:GG} {r:Fn}:subTT (kc k) (Nat.mul 257 (kc k)) (pwK k) (hfK k) (yG t1) (yG t2) (yG d) (kS (yG d)) (.mk (jN (.mk g) r)) r=Hd (binF (kc k) (ariW (kc k) (subX (pwK k))) (gS (yG t1)) (gS (yG t2))) d g r:=by
 funext cx E M k' a
 symm
 exact uC (c:=twoK _ _ _) (tag_mkI k (Nat.lt_of_lt_of_le (Nat.mod_lt _ (uN k)) (pw_le k)))
def subTC (c C p h s1 s2 sd K:Nat) (fb r:Fn):FF:=fun cx E M k a=>(fun x y=>(Bool.rec (motive:=fun _=>Ans) (fb.run cx E M k a) (r.run cx (Nat.xor E (Nat.mul (Nat.xor (Nat.mod (Nat.shiftRight E sd) 340282366920938463463374607431768211456) (Nat.add c (Nat.mul 256 (Nat.mod (Nat.add (Nat.mod (Nat.shiftRight x 8) 18446744073709551616) (Nat.sub p (Nat.mod (Nat.shiftRight y 8) 18446744073709551616))) p)))) K)) M k a) (Nat.beq (Nat.add (Nat.mod x 256) (Nat.mul 256 (Nat.mod y 256))) C))) (Nat.mod (Nat.shiftRight E s1) 340282366920938463463374607431768211456) s2
theorem subTC_eq {k:IntKind} {t1 w2 d:Nat} {g:GG} {r:Fn}:subTC (kc k) (Nat.mul 257 (kc k)) (pwK k) (hfK k) (yG t1) w2 (yG d) (kS (yG d)) (.mk (jN (.mk g) r)) r=Hd (binF (kc k) (ariW (kc k) (subX (pwK k))) (gS (yG t1)) (gC w2)) d g r:=by
 funext cx E M k' a
 symm
 exact uC (c:=twoK _ _ _) (tag_mkI k (Nat.lt_of_lt_of_le (Nat.mod_lt _ (uN k)) (pw_le k)))
def lssTT (c C p h s1 s2 sd K:Nat) (fb r:Fn):FF:=fun cx E M k a=>(fun x y=>(Bool.rec (motive:=fun _=>Ans) (fb.run cx E M k a) (r.run cx (Nat.xor E (Nat.mul (Nat.xor (Nat.mod (Nat.shiftRight E sd) 340282366920938463463374607431768211456) (Bool.rec (motive:=fun _=>Nat) 1 9 (Nat.ble (Nat.succ (Nat.mod (Nat.add (Nat.mod (Nat.shiftRight x 8) 18446744073709551616) h) p)) (Nat.mod (Nat.add (Nat.mod (Nat.shiftRight y 8) 18446744073709551616) h) p)))) K)) M k a) (Nat.beq (Nat.add (Nat.mod x 256) (Nat.mul 256 (Nat.mod y 256))) C))) (Nat.mod (Nat.shiftRight E s1) 340282366920938463463374607431768211456) (Nat.mod (Nat.shiftRight E s2) 340282366920938463463374607431768211456)
theorem lssTT_eq {k:IntKind} {t1 t2 d:Nat} {g:GG} {r:Fn}:lssTT (kc k) (Nat.mul 257 (kc k)) (pwK k) (hfK k) (yG t1) (yG t2) (yG d) (kS (yG d)) (.mk (jN (.mk g) r)) r=Hd (binF (kc k) (cmpW (ltX (pwK k) (hfK k))) (gS (yG t1)) (gS (yG t2))) d g r:=by
 funext cx E M k' a
 symm
 exact uC (c:=twoK _ _ _) (tag_bW _)
def lssTC (c C p h s1 s2 sd K:Nat) (fb r:Fn):FF:=fun cx E M k a=>(fun x y=>(Bool.rec (motive:=fun _=>Ans) (fb.run cx E M k a) (r.run cx (Nat.xor E (Nat.mul (Nat.xor (Nat.mod (Nat.shiftRight E sd) 340282366920938463463374607431768211456) (Bool.rec (motive:=fun _=>Nat) 1 9 (Nat.ble (Nat.succ (Nat.mod (Nat.add (Nat.mod (Nat.shiftRight x 8) 18446744073709551616) h) p)) (Nat.mod (Nat.add (Nat.mod (Nat.shiftRight y 8) 18446744073709551616) h) p)))) K)) M k a) (Nat.beq (Nat.add (Nat.mod x 256) (Nat.mul 256 (Nat.mod y 256))) C))) (Nat.mod (Nat.shiftRight E s1) 340282366920938463463374607431768211456) s2
theorem lssTC_eq {k:IntKind} {t1 w2 d:Nat} {g:GG} {r:Fn}:lssTC (kc k) (Nat.mul 257 (kc k)) (pwK k) (hfK k) (yG t1) w2 (yG d) (kS (yG d)) (.mk (jN (.mk g) r)) r=Hd (binF (kc k) (cmpW (ltX (pwK k) (hfK k))) (gS (yG t1)) (gC w2)) d g r:=by
 funext cx E M k' a
 symm
 exact uC (c:=twoK _ _ _) (tag_bW _)
def leqTT (c C p h s1 s2 sd K:Nat) (fb r:Fn):FF:=fun cx E M k a=>(fun x y=>(Bool.rec (motive:=fun _=>Ans) (fb.run cx E M k a) (r.run cx (Nat.xor E (Nat.mul (Nat.xor (Nat.mod (Nat.shiftRight E sd) 340282366920938463463374607431768211456) (Bool.rec (motive:=fun _=>Nat) 1 9 (Nat.ble (Nat.mod (Nat.add (Nat.mod (Nat.shiftRight x 8) 18446744073709551616) h) p) (Nat.mod (Nat.add (Nat.mod (Nat.shiftRight y 8) 18446744073709551616) h) p)))) K)) M k a) (Nat.beq (Nat.add (Nat.mod x 256) (Nat.mul 256 (Nat.mod y 256))) C))) (Nat.mod (Nat.shiftRight E s1) 340282366920938463463374607431768211456) (Nat.mod (Nat.shiftRight E s2) 340282366920938463463374607431768211456)
theorem leqTT_eq {k:IntKind} {t1 t2 d:Nat} {g:GG} {r:Fn}:leqTT (kc k) (Nat.mul 257 (kc k)) (pwK k) (hfK k) (yG t1) (yG t2) (yG d) (kS (yG d)) (.mk (jN (.mk g) r)) r=Hd (binF (kc k) (cmpW (leX (pwK k) (hfK k))) (gS (yG t1)) (gS (yG t2))) d g r:=by
 funext cx E M k' a
 symm
 exact uC (c:=twoK _ _ _) (tag_bW _)
def leqTC (c C p h s1 s2 sd K:Nat) (fb r:Fn):FF:=fun cx E M k a=>(fun x y=>(Bool.rec (motive:=fun _=>Ans) (fb.run cx E M k a) (r.run cx (Nat.xor E (Nat.mul (Nat.xor (Nat.mod (Nat.shiftRight E sd) 340282366920938463463374607431768211456) (Bool.rec (motive:=fun _=>Nat) 1 9 (Nat.ble (Nat.mod (Nat.add (Nat.mod (Nat.shiftRight x 8) 18446744073709551616) h) p) (Nat.mod (Nat.add (Nat.mod (Nat.shiftRight y 8) 18446744073709551616) h) p)))) K)) M k a) (Nat.beq (Nat.add (Nat.mod x 256) (Nat.mul 256 (Nat.mod y 256))) C))) (Nat.mod (Nat.shiftRight E s1) 340282366920938463463374607431768211456) s2
theorem leqTC_eq {k:IntKind} {t1 w2 d:Nat} {g:GG} {r:Fn}:leqTC (kc k) (Nat.mul 257 (kc k)) (pwK k) (hfK k) (yG t1) w2 (yG d) (kS (yG d)) (.mk (jN (.mk g) r)) r=Hd (binF (kc k) (cmpW (leX (pwK k) (hfK k))) (gS (yG t1)) (gC w2)) d g r:=by
 funext cx E M k' a
 symm
 exact uC (c:=twoK _ _ _) (tag_bW _)
def gtrTT (c C p h s1 s2 sd K:Nat) (fb r:Fn):FF:=fun cx E M k a=>(fun x y=>(Bool.rec (motive:=fun _=>Ans) (fb.run cx E M k a) (r.run cx (Nat.xor E (Nat.mul (Nat.xor (Nat.mod (Nat.shiftRight E sd) 340282366920938463463374607431768211456) (Bool.rec (motive:=fun _=>Nat) 1 9 (Nat.ble (Nat.succ (Nat.mod (Nat.add (Nat.mod (Nat.shiftRight y 8) 18446744073709551616) h) p)) (Nat.mod (Nat.add (Nat.mod (Nat.shiftRight x 8) 18446744073709551616) h) p)))) K)) M k a) (Nat.beq (Nat.add (Nat.mod x 256) (Nat.mul 256 (Nat.mod y 256))) C))) (Nat.mod (Nat.shiftRight E s1) 340282366920938463463374607431768211456) (Nat.mod (Nat.shiftRight E s2) 340282366920938463463374607431768211456)
theorem gtrTT_eq {k:IntKind} {t1 t2 d:Nat} {g:GG} {r:Fn}:gtrTT (kc k) (Nat.mul 257 (kc k)) (pwK k) (hfK k) (yG t1) (yG t2) (yG d) (kS (yG d)) (.mk (jN (.mk g) r)) r=Hd (binF (kc k) (cmpW (gtX (pwK k) (hfK k))) (gS (yG t1)) (gS (yG t2))) d g r:=by
 funext cx E M k' a
 symm
 exact uC (c:=twoK _ _ _) (tag_bW _)
def gtrTC (c C p h s1 s2 sd K:Nat) (fb r:Fn):FF:=fun cx E M k a=>(fun x y=>(Bool.rec (motive:=fun _=>Ans) (fb.run cx E M k a) (r.run cx (Nat.xor E (Nat.mul (Nat.xor (Nat.mod (Nat.shiftRight E sd) 340282366920938463463374607431768211456) (Bool.rec (motive:=fun _=>Nat) 1 9 (Nat.ble (Nat.succ (Nat.mod (Nat.add (Nat.mod (Nat.shiftRight y 8) 18446744073709551616) h) p)) (Nat.mod (Nat.add (Nat.mod (Nat.shiftRight x 8) 18446744073709551616) h) p)))) K)) M k a) (Nat.beq (Nat.add (Nat.mod x 256) (Nat.mul 256 (Nat.mod y 256))) C))) (Nat.mod (Nat.shiftRight E s1) 340282366920938463463374607431768211456) s2
theorem gtrTC_eq {k:IntKind} {t1 w2 d:Nat} {g:GG} {r:Fn}:gtrTC (kc k) (Nat.mul 257 (kc k)) (pwK k) (hfK k) (yG t1) w2 (yG d) (kS (yG d)) (.mk (jN (.mk g) r)) r=Hd (binF (kc k) (cmpW (gtX (pwK k) (hfK k))) (gS (yG t1)) (gC w2)) d g r:=by
 funext cx E M k' a
 symm
 exact uC (c:=twoK _ _ _) (tag_bW _)
def geqTT (c C p h s1 s2 sd K:Nat) (fb r:Fn):FF:=fun cx E M k a=>(fun x y=>(Bool.rec (motive:=fun _=>Ans) (fb.run cx E M k a) (r.run cx (Nat.xor E (Nat.mul (Nat.xor (Nat.mod (Nat.shiftRight E sd) 340282366920938463463374607431768211456) (Bool.rec (motive:=fun _=>Nat) 1 9 (Nat.ble (Nat.mod (Nat.add (Nat.mod (Nat.shiftRight y 8) 18446744073709551616) h) p) (Nat.mod (Nat.add (Nat.mod (Nat.shiftRight x 8) 18446744073709551616) h) p)))) K)) M k a) (Nat.beq (Nat.add (Nat.mod x 256) (Nat.mul 256 (Nat.mod y 256))) C))) (Nat.mod (Nat.shiftRight E s1) 340282366920938463463374607431768211456) (Nat.mod (Nat.shiftRight E s2) 340282366920938463463374607431768211456)
theorem geqTT_eq {k:IntKind} {t1 t2 d:Nat} {g:GG} {r:Fn}:geqTT (kc k) (Nat.mul 257 (kc k)) (pwK k) (hfK k) (yG t1) (yG t2) (yG d) (kS (yG d)) (.mk (jN (.mk g) r)) r=Hd (binF (kc k) (cmpW (geX (pwK k) (hfK k))) (gS (yG t1)) (gS (yG t2))) d g r:=by
 funext cx E M k' a
 symm
 exact uC (c:=twoK _ _ _) (tag_bW _)
def geqTC (c C p h s1 s2 sd K:Nat) (fb r:Fn):FF:=fun cx E M k a=>(fun x y=>(Bool.rec (motive:=fun _=>Ans) (fb.run cx E M k a) (r.run cx (Nat.xor E (Nat.mul (Nat.xor (Nat.mod (Nat.shiftRight E sd) 340282366920938463463374607431768211456) (Bool.rec (motive:=fun _=>Nat) 1 9 (Nat.ble (Nat.mod (Nat.add (Nat.mod (Nat.shiftRight y 8) 18446744073709551616) h) p) (Nat.mod (Nat.add (Nat.mod (Nat.shiftRight x 8) 18446744073709551616) h) p)))) K)) M k a) (Nat.beq (Nat.add (Nat.mod x 256) (Nat.mul 256 (Nat.mod y 256))) C))) (Nat.mod (Nat.shiftRight E s1) 340282366920938463463374607431768211456) s2
theorem geqTC_eq {k:IntKind} {t1 w2 d:Nat} {g:GG} {r:Fn}:geqTC (kc k) (Nat.mul 257 (kc k)) (pwK k) (hfK k) (yG t1) w2 (yG d) (kS (yG d)) (.mk (jN (.mk g) r)) r=Hd (binF (kc k) (cmpW (geX (pwK k) (hfK k))) (gS (yG t1)) (gC w2)) d g r:=by
 funext cx E M k' a
 symm
 exact uC (c:=twoK _ _ _) (tag_bW _)
def eqlTT (c C p h s1 s2 sd K:Nat) (fb r:Fn):FF:=fun cx E M k a=>(fun x y=>(Bool.rec (motive:=fun _=>Ans) (fb.run cx E M k a) (r.run cx (Nat.xor E (Nat.mul (Nat.xor (Nat.mod (Nat.shiftRight E sd) 340282366920938463463374607431768211456) (Bool.rec (motive:=fun _=>Nat) 1 9 (Nat.beq (Nat.mod (Nat.shiftRight x 8) 18446744073709551616) (Nat.mod (Nat.shiftRight y 8) 18446744073709551616)))) K)) M k a) (Nat.beq (Nat.add (Nat.mod x 256) (Nat.mul 256 (Nat.mod y 256))) C))) (Nat.mod (Nat.shiftRight E s1) 340282366920938463463374607431768211456) (Nat.mod (Nat.shiftRight E s2) 340282366920938463463374607431768211456)
theorem eqlTT_eq {k:IntKind} {t1 t2 d:Nat} {g:GG} {r:Fn}:eqlTT (kc k) (Nat.mul 257 (kc k)) (pwK k) (hfK k) (yG t1) (yG t2) (yG d) (kS (yG d)) (.mk (jN (.mk g) r)) r=Hd (binF (kc k) (cmpW Nat.beq) (gS (yG t1)) (gS (yG t2))) d g r:=by
 funext cx E M k' a
 symm
 exact uC (c:=twoK _ _ _) (tag_bW _)
def eqlTC (c C p h s1 s2 sd K:Nat) (fb r:Fn):FF:=fun cx E M k a=>(fun x y=>(Bool.rec (motive:=fun _=>Ans) (fb.run cx E M k a) (r.run cx (Nat.xor E (Nat.mul (Nat.xor (Nat.mod (Nat.shiftRight E sd) 340282366920938463463374607431768211456) (Bool.rec (motive:=fun _=>Nat) 1 9 (Nat.beq (Nat.mod (Nat.shiftRight x 8) 18446744073709551616) (Nat.mod (Nat.shiftRight y 8) 18446744073709551616)))) K)) M k a) (Nat.beq (Nat.add (Nat.mod x 256) (Nat.mul 256 (Nat.mod y 256))) C))) (Nat.mod (Nat.shiftRight E s1) 340282366920938463463374607431768211456) s2
theorem eqlTC_eq {k:IntKind} {t1 w2 d:Nat} {g:GG} {r:Fn}:eqlTC (kc k) (Nat.mul 257 (kc k)) (pwK k) (hfK k) (yG t1) w2 (yG d) (kS (yG d)) (.mk (jN (.mk g) r)) r=Hd (binF (kc k) (cmpW Nat.beq) (gS (yG t1)) (gC w2)) d g r:=by
 funext cx E M k' a
 symm
 exact uC (c:=twoK _ _ _) (tag_bW _)
def neqTT (c C p h s1 s2 sd K:Nat) (fb r:Fn):FF:=fun cx E M k a=>(fun x y=>(Bool.rec (motive:=fun _=>Ans) (fb.run cx E M k a) (r.run cx (Nat.xor E (Nat.mul (Nat.xor (Nat.mod (Nat.shiftRight E sd) 340282366920938463463374607431768211456) (Bool.rec (motive:=fun _=>Nat) 9 1 (Nat.beq (Nat.mod (Nat.shiftRight x 8) 18446744073709551616) (Nat.mod (Nat.shiftRight y 8) 18446744073709551616)))) K)) M k a) (Nat.beq (Nat.add (Nat.mod x 256) (Nat.mul 256 (Nat.mod y 256))) C))) (Nat.mod (Nat.shiftRight E s1) 340282366920938463463374607431768211456) (Nat.mod (Nat.shiftRight E s2) 340282366920938463463374607431768211456)
theorem neqTT_eq {k:IntKind} {t1 t2 d:Nat} {g:GG} {r:Fn}:neqTT (kc k) (Nat.mul 257 (kc k)) (pwK k) (hfK k) (yG t1) (yG t2) (yG d) (kS (yG d)) (.mk (jN (.mk g) r)) r=Hd (binF (kc k) (cmpW neX) (gS (yG t1)) (gS (yG t2))) d g r:=by
 funext cx E M k' a
 symm
 refine (uC (c:=twoK _ _ _) (tag_bW _)).trans ?_
 exact congrArg (fun z=>Bool.rec (motive:=fun _=>Ans) ((Fn.mk (jN (.mk g) r)).run cx E M k' a) (r.run cx (vP E (yG d) z) M k' a) (twoK (kc k) (yT E (yG t1)) (yT E (yG t2)))) (bW_not _)
def neqTC (c C p h s1 s2 sd K:Nat) (fb r:Fn):FF:=fun cx E M k a=>(fun x y=>(Bool.rec (motive:=fun _=>Ans) (fb.run cx E M k a) (r.run cx (Nat.xor E (Nat.mul (Nat.xor (Nat.mod (Nat.shiftRight E sd) 340282366920938463463374607431768211456) (Bool.rec (motive:=fun _=>Nat) 9 1 (Nat.beq (Nat.mod (Nat.shiftRight x 8) 18446744073709551616) (Nat.mod (Nat.shiftRight y 8) 18446744073709551616)))) K)) M k a) (Nat.beq (Nat.add (Nat.mod x 256) (Nat.mul 256 (Nat.mod y 256))) C))) (Nat.mod (Nat.shiftRight E s1) 340282366920938463463374607431768211456) s2
theorem neqTC_eq {k:IntKind} {t1 w2 d:Nat} {g:GG} {r:Fn}:neqTC (kc k) (Nat.mul 257 (kc k)) (pwK k) (hfK k) (yG t1) w2 (yG d) (kS (yG d)) (.mk (jN (.mk g) r)) r=Hd (binF (kc k) (cmpW neX) (gS (yG t1)) (gC w2)) d g r:=by
 funext cx E M k' a
 symm
 refine (uC (c:=twoK _ _ _) (tag_bW _)).trans ?_
 exact congrArg (fun z=>Bool.rec (motive:=fun _=>Ans) ((Fn.mk (jN (.mk g) r)).run cx E M k' a) (r.run cx (vP E (yG d) z) M k' a) (twoK (kc k) (yT E (yG t1)) w2)) (bW_not _)
def lodR (s sd K:Nat) (fb r:Fn):FF:=fun cx E M k a=>(fun x=>(Bool.rec (motive:=fun _=>Ans) (fb.run cx E M k a) ((fun w=>(Bool.rec (motive:=fun _=>Ans) (fb.run cx E M k a) (r.run cx (Nat.xor E (Nat.mul (Nat.xor (Nat.mod (Nat.shiftRight E sd) 340282366920938463463374607431768211456) w) K)) M k a) (Nat.beq (Nat.shiftRight (Nat.add (Nat.mod w 256) 63) 6) 1))) (cellO (Nat.mod (Nat.shiftRight x 32) 16777216) (M.H.get (Nat.mod (Nat.shiftRight x 8) 16777216)))) (Nat.beq (Nat.mod x 256) 10))) (Nat.mod (Nat.shiftRight E s) 340282366920938463463374607431768211456)
theorem lodR_eq {t d:Nat} {g:GG} {r:Fn}:lodR (yG t) (yG d) (kS (yG d)) (.mk (jN (.mk g) r)) r=Hd (loadF (gS (yG t))) d g r:=by
 funext cx E M k a
 show Bool.rec (motive:=fun _=>Ans) _ _ (Nat.beq (yO (yT E (yG t))) 10)=fastK (load1 M.H (yT E (yG t))) d g cx E M _
 unfold load1
 rcases hc:Nat.beq (yO (yT E (yG t))) 10 with _|_
 ·exact raw_f.symm
 ·rw [show wB true (cellO (f1 (yT E (yG t))) (M.H.get (f0 (yT E (yG t)))))=cellO (f1 (yT E (yG t))) (M.H.get (f0 (yT E (yG t)))) from rfl]
  have key:∀ v:Nat,(fun w=>Bool.rec (motive:=fun _=>Ans) ((Fn.mk (jN (.mk g) r)).run cx E M k a) (r.run cx (vP E (yG d) w) M k a) (xI w)) v=fastK v d g cx E M (fun E M=>r.run cx E M k a):=fun v=>rfl
  exact key (cellO (f1 (yT E (yG t))) (M.H.get (f0 (yT E (yG t)))))
def idxR (m s1 s2 sd K:Nat) (fb r:Fn):FF:=fun cx E M k a=>(fun x y=>(Bool.rec (motive:=fun _=>Ans) (fb.run cx E M k a) (r.run cx (Nat.xor E (Nat.mul (Nat.xor (Nat.mod (Nat.shiftRight E sd) 340282366920938463463374607431768211456) (Nat.add 10 (Nat.add (Nat.mul 256 (Nat.mod (Nat.shiftRight x 8) 16777216)) (Nat.mul 4294967296 (Nat.add (Nat.mod (Nat.shiftRight x 32) 16777216) (Nat.mul (Nat.mod (Nat.shiftRight y 8) 18446744073709551616) m)))))) K)) M k a) (Bool.rec (motive:=fun _=>Bool) false (Bool.rec (motive:=fun _=>Bool) false (Bool.rec (motive:=fun _=>Bool) false (Nat.ble (Nat.succ (Nat.add (Nat.mod (Nat.shiftRight x 32) 16777216) (Nat.mul (Nat.mod (Nat.shiftRight y 8) 18446744073709551616) m))) 16777216) (Nat.ble (Nat.succ (Nat.mod (Nat.shiftRight y 8) 18446744073709551616)) (Nat.mod (Nat.shiftRight x 56) 16777216))) (Nat.beq (Nat.shiftRight (Nat.succ (Nat.mod x 256)) 1) 6)) (Bool.rec (motive:=fun _=>Bool) false (Nat.ble (Nat.succ (Nat.mod (Nat.shiftRight y 8) 18446744073709551616)) 9223372036854775808) (Nat.beq (Nat.mod y 256) 35))))) (Nat.mod (Nat.shiftRight E s1) 340282366920938463463374607431768211456) (Nat.mod (Nat.shiftRight E s2) 340282366920938463463374607431768211456)
theorem idxR_eq {m t1 t2 d:Nat} {g:GG} {r:Fn}:idxR m (yG t1) (yG t2) (yG d) (kS (yG d)) (.mk (jN (.mk g) r)) r=Hd (idxF m (gS (yG t1)) (gS (yG t2))) d g r:=by
 funext cx E M k a
 show Bool.rec (motive:=fun _=>Ans) _ _ (vJ (vJ (Nat.beq (yO (yT E (yG t2))) 35) (Nat.blt (iw (yT E (yG t2))) 9223372036854775808)) (vJ (isSl (yO (yT E (yG t1)))) (vJ (Nat.blt (iw (yT E (yG t2))) (f2 (yT E (yG t1)))) (jP (ixOff m (yT E (yG t1)) (yT E (yG t2)))))))=fastK (idx1 m (yT E (yG t1)) (yT E (yG t2))) d g cx E M _
 unfold idx1
 rcases hc:vJ (vJ (Nat.beq (yO (yT E (yG t2))) 35) (Nat.blt (iw (yT E (yG t2))) 9223372036854775808)) (vJ (isSl (yO (yT E (yG t1)))) (vJ (Nat.blt (iw (yT E (yG t2))) (f2 (yT E (yG t1)))) (jP (ixOff m (yT E (yG t1)) (yT E (yG t2)))))) with _|_
 ·exact raw_f.symm
 ·symm
  show Bool.rec (motive:=fun _=>Ans) _ _ (xI (mkP (f0 (yT E (yG t1))) (ixOff m (yT E (yG t1)) (yT E (yG t2)))))=_
  rw [tag_mkP (f0_lt _) (blt_t (jH (jH (jH hc).2).2).2)]; rfl
section
variable (TT:Nat→Option TI)
def fbF (op:Op) (d:Nat) (r:Fn):Fn:=.mk (jN (.mk (jY TT op (some d))) r)
def constW (w d:Nat) (r:Fn):Option Fn:=bif xI w then some (.mk (conR w (yG d) (kS (yG d)) r)) else none
def binR (o:BinOp) (k:IntKind) (t1:Nat) (y:Operand) (d:Nat) (fb r:Fn):Option Fn:=match y with
 | .tmp t2=>match o with
  | .add=>some (.mk (addTT (kc k) (Nat.mul 257 (kc k)) (pwK k) (hfK k) (yG t1) (yG t2) (yG d) (kS (yG d)) fb r))
  | .sub=>some (.mk (subTT (kc k) (Nat.mul 257 (kc k)) (pwK k) (hfK k) (yG t1) (yG t2) (yG d) (kS (yG d)) fb r))
  | .lss=>some (.mk (lssTT (kc k) (Nat.mul 257 (kc k)) (pwK k) (hfK k) (yG t1) (yG t2) (yG d) (kS (yG d)) fb r))
  | .leq=>some (.mk (leqTT (kc k) (Nat.mul 257 (kc k)) (pwK k) (hfK k) (yG t1) (yG t2) (yG d) (kS (yG d)) fb r))
  | .gtr=>some (.mk (gtrTT (kc k) (Nat.mul 257 (kc k)) (pwK k) (hfK k) (yG t1) (yG t2) (yG d) (kS (yG d)) fb r))
  | .geq=>some (.mk (geqTT (kc k) (Nat.mul 257 (kc k)) (pwK k) (hfK k) (yG t1) (yG t2) (yG d) (kS (yG d)) fb r))
  | .eql=>some (.mk (eqlTT (kc k) (Nat.mul 257 (kc k)) (pwK k) (hfK k) (yG t1) (yG t2) (yG d) (kS (yG d)) fb r))
  | .neq=>some (.mk (neqTT (kc k) (Nat.mul 257 (kc k)) (pwK k) (hfK k) (yG t1) (yG t2) (yG d) (kS (yG d)) fb r))
  | _=>none
 | .const v=>match o with
  | .add=>some (.mk (addTC (kc k) (Nat.mul 257 (kc k)) (pwK k) (hfK k) (yG t1) (encO (conv 20 v)) (yG d) (kS (yG d)) fb r))
  | .sub=>some (.mk (subTC (kc k) (Nat.mul 257 (kc k)) (pwK k) (hfK k) (yG t1) (encO (conv 20 v)) (yG d) (kS (yG d)) fb r))
  | .lss=>some (.mk (lssTC (kc k) (Nat.mul 257 (kc k)) (pwK k) (hfK k) (yG t1) (encO (conv 20 v)) (yG d) (kS (yG d)) fb r))
  | .leq=>some (.mk (leqTC (kc k) (Nat.mul 257 (kc k)) (pwK k) (hfK k) (yG t1) (encO (conv 20 v)) (yG d) (kS (yG d)) fb r))
  | .gtr=>some (.mk (gtrTC (kc k) (Nat.mul 257 (kc k)) (pwK k) (hfK k) (yG t1) (encO (conv 20 v)) (yG d) (kS (yG d)) fb r))
  | .geq=>some (.mk (geqTC (kc k) (Nat.mul 257 (kc k)) (pwK k) (hfK k) (yG t1) (encO (conv 20 v)) (yG d) (kS (yG d)) fb r))
  | .eql=>some (.mk (eqlTC (kc k) (Nat.mul 257 (kc k)) (pwK k) (hfK k) (yG t1) (encO (conv 20 v)) (yG d) (kS (yG d)) fb r))
  | .neq=>some (.mk (neqTC (kc k) (Nat.mul 257 (kc k)) (pwK k) (hfK k) (yG t1) (encO (conv 20 v)) (yG d) (kS (yG d)) fb r))
  | _=>none
 | _=>none
def rawO (op:Op) (d:Nat) (r:Fn):Option Fn:=match op with
 | .move x=>match x with
  | .tmp t=>some (.mk (movR (yG t) (yG d) (kS (yG d)) (fbF TT op d r) r))
  | .const v=>constW (encO (conv 20 v)) d r
  | _=>none
 | .assign x=>match x with
  | .tmp t=>some (.mk (movR (yG t) (yG d) (kS (yG d)) (fbF TT op d r) r))
  | .const v=>constW (encO (conv 20 v)) d r
  | _=>none
 | .nilCheck x=>match x with
  | .tmp t=>some (.mk (nilR (yG t) (yG d) (kS (yG d)) (fbF TT op d r) r))
  | _=>none
 | .fieldAddr ty x k=>match x with
  | .tmp t=>match fldO TT ty k with
   | none=>none
   | some f=>some (.mk (fldR f (yG t) (yG d) (kS (yG d)) (fbF TT op d r) r))
  | _=>none
 | .binOp o ty x y _=>match x with
  | .tmp t=>match intK TT ty with
   | none=>none
   | some k=>binR o k t y d (fbF TT op d r) r
  | _=>none
 | .load ty x=>match x with
  | .tmp t=>match jF TT ty with
   | none=>none
   | some e=>bif isAggD e then none else some (.mk (lodR (yG t) (yG d) (kS (yG d)) (fbF TT op d r) r))
  | _=>none
 | .indexAddr ty x y=>match x with
  | .tmp t1=>match y with
   | .tmp t2=>match jF TT ty with
    | some (.slice e)=>match vF TT e with
     | none=>none
     | some m=>some (.mk (idxR m (yG t1) (yG t2) (yG d) (kS (yG d)) (fbF TT op d r) r))
    | _=>none
   | _=>none
  | _=>none
 | _=>none
def rawL (n:Nat) (o:Oper) (r:Fn):Option Fn:=match o.guard with
 | some _=>none
 | none=>match o.dst with
  | none=>none
  | some d=>bif Nat.blt d n then rawO TT o.op d r else none
def headL (n:Nat) (ops:Array Oper) (o:Oper) (r:Fn):Option Fn→Fn
 | some f=>f
 | none=>.mk (jN (cOp TT n ops o) r)
def cL2 (n:Nat) (ops:Array Oper):List Oper→Fn
 | []=>.mk nilFF
 | o::l=>headL TT n ops o (cL2 n ops l) (rawL TT n o (cL2 n ops l))
end
section
variable {TT:Nat→Option TI}
theorem wfG {op:Op} {d:Nat} {f:Wf} (h:wfO TT op=some f) (r:Fn):jN (opG TT op (some d)) r=Hd f.run d (jY TT op (some d)) r:=by
 unfold opG Hd
 simp only [h]
theorem constW_eq {w d:Nat} {r f:Fn} {g:GG} (h:constW w d r=some f):f.run=Hd (movF (gC w)) d g r:=by
 unfold constW at h
 rw [cond_eq_ite] at h
 split at h
 ·rename_i ht
  simp only [Option.some.injEq] at h; subst h
  exact conR_eq ht
 ·cases h
theorem binR_eq {o:BinOp} {k:IntKind} {t1 d:Nat} {y:Operand} {r f:Fn} {g:GG} (h:binR o k t1 y d (.mk (jN (.mk g) r)) r=some f):∃ q,iopW o k=some q∧f.run=Hd (binF (kc k) q.run (gS (yG t1)) (gW y).run) d g r:=by
 cases y with
 | tmp t2=>cases o with
  | add=>simp only [binR,Option.some.injEq] at h; subst h; exact ⟨_,rfl,addTT_eq⟩
  | sub=>simp only [binR,Option.some.injEq] at h; subst h; exact ⟨_,rfl,subTT_eq⟩
  | lss=>simp only [binR,Option.some.injEq] at h; subst h; exact ⟨_,rfl,lssTT_eq⟩
  | leq=>simp only [binR,Option.some.injEq] at h; subst h; exact ⟨_,rfl,leqTT_eq⟩
  | gtr=>simp only [binR,Option.some.injEq] at h; subst h; exact ⟨_,rfl,gtrTT_eq⟩
  | geq=>simp only [binR,Option.some.injEq] at h; subst h; exact ⟨_,rfl,geqTT_eq⟩
  | eql=>simp only [binR,Option.some.injEq] at h; subst h; exact ⟨_,rfl,eqlTT_eq⟩
  | neq=>simp only [binR,Option.some.injEq] at h; subst h; exact ⟨_,rfl,neqTT_eq⟩
  | _=>cases h
 | const v=>cases o with
  | add=>simp only [binR,Option.some.injEq] at h; subst h; exact ⟨_,rfl,addTC_eq⟩
  | sub=>simp only [binR,Option.some.injEq] at h; subst h; exact ⟨_,rfl,subTC_eq⟩
  | lss=>simp only [binR,Option.some.injEq] at h; subst h; exact ⟨_,rfl,lssTC_eq⟩
  | leq=>simp only [binR,Option.some.injEq] at h; subst h; exact ⟨_,rfl,leqTC_eq⟩
  | gtr=>simp only [binR,Option.some.injEq] at h; subst h; exact ⟨_,rfl,gtrTC_eq⟩
  | geq=>simp only [binR,Option.some.injEq] at h; subst h; exact ⟨_,rfl,geqTC_eq⟩
  | eql=>simp only [binR,Option.some.injEq] at h; subst h; exact ⟨_,rfl,eqlTC_eq⟩
  | neq=>simp only [binR,Option.some.injEq] at h; subst h; exact ⟨_,rfl,neqTC_eq⟩
  | _=>cases h
 | _=>cases h
theorem rawO_eq {op:Op} {d:Nat} {r f:Fn} (h:rawO TT op d r=some f):f.run=jN (opG TT op (some d)) r:=by
 cases op with
 | move x =>
  cases x with
  | tmp t=>simp only [rawO,Option.some.injEq] at h; subst h; rw [wfG (f:=.mk (movF (gW (.tmp t)).run)) O]; exact movR_eq
  | const v=>simp only [rawO] at h; rw [wfG (f:=.mk (movF (gW (.const v)).run)) O]; exact constW_eq h
  | _=>cases h
 | assign x =>
  cases x with
  | tmp t=>simp only [rawO,Option.some.injEq] at h; subst h; rw [wfG (f:=.mk (movF (gW (.tmp t)).run)) O]; exact movR_eq
  | const v=>simp only [rawO] at h; rw [wfG (f:=.mk (movF (gW (.const v)).run)) O]; exact constW_eq h
  | _=>cases h
 | nilCheck x =>
  cases x with
  | tmp t=>simp only [rawO,Option.some.injEq] at h; subst h; rw [wfG (f:=.mk (nilF (gW (.tmp t)).run)) O]; exact nilR_eq
  | _=>cases h
 | fieldAddr ty x k =>
  cases x with
  | tmp t =>
   simp only [rawO] at h
   split at h
   ·cases h
   ·rename_i q hq
    simp only [Option.some.injEq] at h; subst h
    rw [wfG (f:=.mk (fldF q (gW (.tmp t)).run)) (by simp only [wfO,hq])]; exact fldR_eq
  | _=>cases h
 | binOp o ty x y ty2 =>
  cases x with
  | tmp t =>
   simp only [rawO] at h
   split at h
   ·cases h
   ·rename_i k hk
    obtain ⟨q,h1,h2⟩:=binR_eq h
    rw [wfG (f:=.mk (binF (kc k) q.run (gW (.tmp t)).run (gW y).run)) (by simp only [wfO,hk,h1])]; exact h2
  | _=>cases h
 | load ty x =>
  cases x with
  | tmp t =>
   simp only [rawO] at h
   split at h
   ·cases h
   ·rename_i e he
    rcases ha:isAggD e with _|_
    ·rw [ha] at h
     simp only [cond_false,Option.some.injEq] at h; subst h
     rw [wfG (f:=.mk (loadF (gW (.tmp t)).run)) (by simp only [wfO,he,ha,cond_false])]; exact lodR_eq
    ·rw [ha] at h; cases h
  | _=>cases h
 | indexAddr ty x y =>
  cases x with
  | tmp t1 =>
   cases y with
   | tmp t2 =>
    simp only [rawO] at h
    split at h
    ·rename_i e hu
     split at h
     ·cases h
     ·rename_i m hm
      simp only [Option.some.injEq] at h; subst h
      rw [wfG (f:=.mk (idxF m (gW (.tmp t1)).run (gW (.tmp t2)).run)) (by simp only [wfO,hu,hm])]; exact idxR_eq
    ·cases h
   | _=>cases h
  | _=>cases h
 | _=>cases h
theorem rawL_eq {n:Nat} {ops:Array Oper} {o:Oper} {r f:Fn} (h:rawL TT n o r=some f):f.run=jN (cOp TT n ops o) r:=by
 unfold rawL at h
 split at h
 ·cases h
 ·rename_i hg
  split at h
  ·cases h
  ·rename_i d hd
   rw [cond_eq_ite] at h
   split at h
   ·rename_i hb
    rw [rawO_eq h]
    unfold cOp gdG
    simp only [hg,hd,uI,hb,cond_true]
   ·cases h
theorem cL2_eq (n:Nat) (ops:Array Oper):∀ l:List Oper,(cL2 TT n ops l).run=(cL TT n ops l).run
 | []=>rfl
 | o::l=>by
  have ih:=cL2_eq n ops l
  have key:jN (cOp TT n ops o) (cL2 TT n ops l)=jN (cOp TT n ops o) (cL TT n ops l):=by unfold jN; rw [ih]
  show (headL TT n ops o (cL2 TT n ops l) (rawL TT n o (cL2 TT n ops l))).run=jN (cOp TT n ops o) (cL TT n ops l)
  rcases hr:rawL TT n o (cL2 TT n ops l) with _|f
  ·exact key
  ·exact (rawL_eq (ops:=ops) hr).trans key
end
end
end Ab
end Sl
end Go.Proofs.YtnkiahopaaibhaaGreat
