/-
  What nodeKnown.proved hangs on, part 4 of 6: EvVe, EvVg, NkH, EvPk, NkP, EvSo, Shelf, NkSo, Rf, EvRf, EvMr, EvHy, NkS, EvCh, NkCa, NkC1, NkC0.
-/
import Derived.Test.YtnkiahopaaibhaaGreatNk3
import Derived.Test.YtnkiahopaaibhaaGreatNk1
import Derived.Test.YtnkiahopaaibhaaGreatNk2
import Derived.Shelf.SlIterI.Nil
import Derived.Shelf.SortM.Plain
import Derived.Shelf.SortM.SortNone
import Derived.Ground.GgzProg
import Derived.Ground.SlgmProg
import Derived.Shelf.Abstract
import Derived.Test.YtnkiahopaaibhaaGreatProg
import Derived.RangeFuncRecord
import Derived.RangeFuncCalls
import Derived.Maps.RangeRun
set_option linter.unusedVariables false
set_option linter.unusedSimpArgs false
namespace Go.Proofs.YtnkiahopaaibhaaGreat
open Go Go.RowKit
namespace Sl
namespace Ab
noncomputable section
section
variable (TT:Nat→Option TI)
def badF (c:Nat):Fn:=.mk fun cx _ _ _ _=>stop cx c none
def seqF (x y:Fn):FF:=fun cx E M k a=>x.run cx E M (fun E M=>y.run cx E M k a) a
def condB (cx:Cx) (x y:Ans) (t:Nat):Ans:=Bool.rec (motive:=fun _=>Ans) (Bool.rec (motive:=fun _=>Ans) (stop cx 22 none) y (Nat.beq t 1)) x (Nat.beq t 9)
def condF (t:Nat) (x y:Fn):FF:=fun cx E M k a=>(fun t=>Bool.rec (motive:=fun _=>Ans) (Bool.rec (motive:=fun _=>Ans) (stop cx 22 none) (y.run cx E M k a) (Nat.beq t 1)) (x.run cx E M k a) (Nat.beq t 9)) (Nat.mod (Nat.mod (Nat.shiftRight E (yG t)) 340282366920938463463374607431768211456) 256)
def condK (cx:Cx) (x y:Ans):Option AV→Ans
 | some (.b true)=>x
 | some (.b false)=>y
 | _=>stop cx 22 none
def condG (c:Operand) (x y:Fn):FF:=fun cx E M k a=>condK cx (x.run cx E M k a) (y.run cx E M k a) (yV (yS E M.S) c)
def blockA (id:Nat) (k:K0) (a:Ka):Ka:=fun sig E M=>Bool.rec (motive:=fun _=>Ans) (a sig E M) (k E M) (Nat.beq sig (Nat.succ id))
def blockF (id:Nat) (x:Fn):FF:=fun cx E M k a=>x.run cx E M k (blockA id k a)
def loopN (cx:Cx) (x:Fn) (a:Ka) (f:Nat):K0:=Nat.rec (motive:=fun _=>K0) (fun _ _=>stop cx 35 none) (fun _ ih E M=>x.run cx E M ih a) f
def fuelL :Nat:=1099511627776
def loopF (x:Fn):FF:=fun cx E M _ a=>loopN cx x a fuelL E M
def exitF (sig:Nat):FF:=fun _ E M _ a=>a sig E M
def regW (fl:List (Nat × Nat × Nat)) (w:Wn):FF:=fun cx E M k _=>w.run cx [] (delN E fl) M k
def cR (n:Nat) (ops:Array Oper):Fn:=match planOf TT ops with
 | none=>badF 20
 | some (F,it)=>match fltOf ops n F with
  | none=>badF 21
  | some fl=>bif fltZ TT fl then .mk (regW fl (cW TT n ops it fl)) else badF 34
def cc (n:Nat):Code→Fn
 | .skip=>.mk nilFF
 | .region _ ops draw=>bif draw then cR TT n ops else cL2 TT n ops ops.toList
 | .seq a b=>.mk (seqF (cc n a) (cc n b))
 | .cond x a b=>match x with
  | .tmp t=>.mk (condF t (cc n a) (cc n b))
  | x=>.mk (condG x (cc n a) (cc n b))
 | .block id b=>.mk (blockF id (cc n b))
 | .loop b=>.mk (loopF (cc n b))
 | .exit k=>.mk (exitF (Nat.succ k))
 | .ret=>.mk (exitF 0)
 | .label _=>.mk nilFF
 | _=>badF 23
variable (FT:Nat→Option Func) (SM:T jJ)
structure Cn where
 mk ::
 rv:RT→Bool→List AV→T AO→Nat→KV→Ans
 rw:RT→Nat→Nat→T AO→Nat→KV→Ans
def argsN :List AV→Nat→Nat→SL→(Nat→SL→Ans)→Ans
 | [],_,E,S,c=>c E S
 | v::l,i,E,S,c=>bif Nat.beq (enc v) 255 then argsN l (Nat.succ i) (vP E (yG i) 255) (sput v i S) c else argsN l (Nat.succ i) (vP E (yG i) (enc v)) S c
def runDN (R:RT):DL→T AO→Nat→(T AO→Nat→Ans)→Ans
 | [],H,nx,c=>c H nx
 | (k,cap,vs)::D,H,nx,c=>R.rv false k (vs++cap) H nx fun _ _ H nx=>runDN R D H nx c
def resK (cx:Cx) (K:KV) (H:T AO) (nx:Nat):Option (List AV)→Ans
 | some l=>K (enc (oneA l)) (oneA l) H nx
 | none=>stop cx 27 none
def noD (D:DL):Bool:=List.rec (motive:=fun _=>Bool) true (fun _ _ _=>false) D
def finG (cx:Cx) (b:Bool) (rs:List ResultVar) (K:KV) (E:Nat) (M:Mm):Ans :=
 bif or b (noD M.D) then runDN cx.R M.D M.H M.nx fun H nx=>resK cx K H nx (resA TT (yS E M.S) H rs) else stop cx 32 none
structure Rn where
 mk ::
 run:Cx→Bool→KV→Nat→Mm→Ans
def fin1 (t:Nat) (cx:Cx) (b:Bool) (K:KV) (E:Nat) (M:Mm):Ans:=Bool.rec (motive:=fun _=>Ans) (finG TT cx b [.tmp t] K E M) (inM M fun _ H nx _=>K (yT E (yG t)) wC H nx) (vJ (xI (yT E (yG t))) (noD M.D))
def finN (rs:List ResultVar):Rn:=match rs with
 | [.tmp t]=>.mk (fin1 TT t)
 | rs=>.mk fun cx b K E M=>finG TT cx b rs K E M
def finA (cx:Cx) (f:K0):Ka:=fun sig E M=>Bool.rec (motive:=fun _=>Ans) (stop cx 25 none) (f E M) (Nat.beq sig 0)
def fnB (x:Fn) (r:Rn) (cx:Cx) (b:Bool) (K:KV) (E:Nat) (M:Mm):Ans:=x.run cx E M (r.run cx b K) (finA cx (r.run cx b K))
def fnG (k n:Nat) (x:Fn) (r:Rn):RT→Bool→List AV→T AO→Nat→KV→Ans:=fun R b vs H nx K =>
 bif Nat.ble vs.length n then argsN vs 0 0 [] fun E S=>fnB x r ⟨R,k⟩ b K E ⟨S,H,nx,[]⟩ else .bad 28
def fnW (k n:Nat) (x:Fn) (r:Rn):RT→Nat→Nat→T AO→Nat→KV→Ans:=fun R E m H nx K =>
 Bool.rec (motive:=fun _=>Ans) (.bad 28) (fnB x r ⟨R,k⟩ true K E ⟨[],H,nx,[]⟩) (Nat.ble m n)
def cFn2 (k n:Nat) (x:Fn) (r:Rn):Cn:=.mk (fnG k n x r) (fnW k n x r)
def badC (c:Nat):Cn:=.mk (fun _ _ _ _ _ _=>.bad c) (fun _ _ _ _ _ _=>.bad c)
def cFn (k:Nat):Cn:=match FT k with
 | none=>badC (Nat.add 100000 k)
 | some fn=>match fn.body with
  | none=>badC 24
  | some c=>cFn2 k fn.ntmps (cc TT fn.ntmps c) (finN TT fn.results.toList)
def sumK (k:Nat) (K:KV):Option Eff→Ans
 | some (v,H,nx)=>K (enc v) v H nx
 | none=>.bad (Nat.add 100 k)
def sumG (k:Nat) (F:jJ):RT→Bool→List AV→T AO→Nat→KV→Ans:=fun R b vs H nx K=>bif b then sumK k K (F vs H nx) else (cFn TT FT k).rv R b vs H nx K
def argsB (E:Nat):Nat→Nat→Option (List AV)
 | 0,_=>some []
 | m+1,i=>match dec (yT E (yG i)) with
  | none=>none
  | some v=>match argsB E m (Nat.succ i) with
   | none=>none
   | some l=>some (v::l)
def sumW (k:Nat) (F:jJ):RT→Nat→Nat→T AO→Nat→KV→Ans:=fun _ E m H nx K=>match argsB E m 0 with
 | none=>.bad (Nat.add 100 k)
 | some vs=>sumK k K (F vs H nx)
def cCn (k:Nat):Cn:=match SM.get k with
 | some F=>.mk (sumG TT FT k F) (sumW k F)
 | none=>cFn TT FT k
def call0 :RT:=.mk (fun _ _ _ _ _ _=>.bad 0) (fun _ _ _ _ _ _=>.bad 0)
def callS (ih:RT):RT:=.mk (fun b k vs H nx K=>(cCn TT FT SM k).rv ih b vs H nx K) (fun k E m H nx K=>(cCn TT FT SM k).rw ih E m H nx K)
def callN (d:Nat):RT:=Nat.rec (motive:=fun _=>RT) call0 (fun _ ih=>callS TT FT SM ih) d
def isG :Ans→Bool
 | .g _=>true
 | .bad _=>false
def yesK :KV:=fun w _ _ _=>bif Nat.beq (yO w) 9 then .g (.b true,.e,0) else .bad w
def runN (d k:Nat):Ans:=(callN TT FT SM d).rv true k [] .e 0 yesK
end
section
variable {TT:Nat→Option TI} {FT:Nat→Option Func} {SM:T jJ} {z:Eff}
theorem bad_ne {c:Nat}:Ans.bad c≠.g z:=fun h=>by cases h
theorem Ev.up {t:Tk} {r:Rs} {B:Nat} (h:∀ f,B≤f→uB TT FT SM (exec TT FT SM f) t=r):Ev TT FT SM t r:=⟨B+1,fun f hf=>by
 cases f with
 | zero=>omega
 | succ f=>exact h f (by omega)⟩
theorem bool_split2 {c:Bool} {x y:Ans} {P:Prop} (h:Bool.rec (motive:=fun _=>Ans) x y c=.g z) (h0:c=false→x=.g z→P) (h1:c=true→y=.g z→P):P:=by
 cases c with
 | false=>exact h0 O h
 | true=>exact h1 O h
def fin (e:Ex) (k:K0) (a:Ka) (E:Nat) (M:Mm):Ans:=match e with
 | .normal=>k E M
 | .exit i=>a (i+1) E M
 | .ret=>a 0 E M
theorem step_loop {rec:Tk→Rs} {n:Nat} {b:Code} {s:S}:uB TT FT SM rec (.code n (.loop b) s)=loopR rec n b fuelL s:=by simp only [uB,fuelL]
attribute [local irreducible] fuelL
def FOkN (TT:Nat→Option TI) (FT:Nat→Option Func) (SM:T jJ) (n:Nat) (c:Code) (x:Fn):Prop:=∀ cx E M k a z,RR TT FT SM cx.R→x.run cx E M k a=.g z →
 ∃ E' M' e,fin e k a E' M'=.g z∧Ev TT FT SM (.code n c (wD E M)) (.ok e (wD E' M'))
theorem loopN_ok {n:Nat} {b:Code} {x:Fn} (hx:FOkN TT FT SM n b x) {cx:Cx} (hR:RR TT FT SM cx.R) {a:Ka}:∀ fu E M,loopN cx x a fu E M=.g z →
  ∃ E' M' e,(∀ k,fin e k a E' M'=.g z)∧∃ B,∀ f,B≤f→loopR (exec TT FT SM f) n b fu (wD E M)=.ok e (wD E' M')
 | 0,E,M,h=>absurd h (yZ _ _ _)
 | fu+1,E,M,h=>by
  obtain ⟨E1,M1,e,h1,B1,g1⟩:=hx cx E M _ a z hR h
  cases e with
  | normal =>
   obtain ⟨E2,M2,e2,h2,B2,g2⟩:=loopN_ok hx hR fu E1 M1 h1
   refine ⟨E2,M2,e2,h2,max B1 B2,fun f hf=>?_⟩
   rw [loopR,g1 f (by omega)]
   exact g2 f (by omega)
  | exit i=>exact ⟨E1,M1,.exit i,fun _=>h1,B1,fun f hf=>by rw [loopR,g1 f hf]⟩
  | ret=>exact ⟨E1,M1,.ret,fun _=>h1,B1,fun f hf=>by rw [loopR,g1 f hf]⟩
theorem badF_ok {n:Nat} {c:Code} {w:Nat}:FOkN TT FT SM n c (badF w):=fun cx E M k a z hR h=>absurd h (yZ _ _ _)
theorem cR_ok (n id:Nat) (ops:Array Oper):FOkN TT FT SM n (.region id ops true) (cR TT n ops):=by
 intro cx E M k a z hR h
 unfold cR at h
 rcases hp:planOf TT ops with _|⟨F,it⟩
 ·simp only [hp] at h; exact absurd h (yZ _ _ _)
 ·simp only [hp] at h
  rcases hf:fltOf ops n F with _|fl
  ·simp only [hf] at h; exact absurd h (yZ _ _ _)
  ·simp only [hf] at h
   by_cases hz:fltZ TT fl=true
   ·rw [hz] at h
    obtain ⟨E',M',h2,B,hB⟩:=cW_ok n ops it fl hR (h:(cW TT n ops it fl).run cx [] (delN E fl) M k=.g z)
    refine ⟨E',M',.normal,h2,Ev.up (B:=B) fun f hf'=>?_⟩
    have hB:=hB f hf'
    simp only [wD,delN_ok] at hB
    simp only [uB,hp,hf,hz,wD]
    exact hB
   ·rw [Bool.eq_false_iff.2 hz] at h; exact absurd h (yZ _ _ _)
theorem cond_ok {n:Nat} {c:Operand} {a b:Code} {x y:Fn} (hx:FOkN TT FT SM n a x) (hy:FOkN TT FT SM n b y) (cx:Cx) (E:Nat) (M:Mm) (k:K0) (ka:Ka) (hR:RR TT FT SM cx.R)
  (h:(yV (yS E M.S) c=some (.b true)∧x.run cx E M k ka=.g z)∨(yV (yS E M.S) c=some (.b false)∧y.run cx E M k ka=.g z)) :
  ∃ E' M' e,fin e k ka E' M'=.g z∧Ev TT FT SM (.code n (.cond c a b) (wD E M)) (.ok e (wD E' M')):=by
 rcases h with ⟨hc,h⟩|⟨hc,h⟩
 ·obtain ⟨E',M',e,h2,B,hB⟩:=hx cx E M k ka z hR h
  exact ⟨E',M',e,h2,Ev.up (B:=B) fun f hf=>by simp only [uB]; rw [show (wD E M).E=yS E M.S from rfl,hc]; exact hB f hf⟩
 ·obtain ⟨E',M',e,h2,B,hB⟩:=hy cx E M k ka z hR h
  exact ⟨E',M',e,h2,Ev.up (B:=B) fun f hf=>by simp only [uB]; rw [show (wD E M).E=yS E M.S from rfl,hc]; exact hB f hf⟩
theorem condG_ok {n:Nat} {c:Operand} {a b:Code} {x y:Fn} (hx:FOkN TT FT SM n a x) (hy:FOkN TT FT SM n b y):FOkN TT FT SM n (.cond c a b) (.mk (condG c x y)):=by
 intro cx E M k ka z hR h
 refine cond_ok hx hy cx E M k ka hR ?_
 replace h:condK cx (x.run cx E M k ka) (y.run cx E M k ka) (yV (yS E M.S) c)=.g z:=h
 revert h
 match yV (yS E M.S) c with
 | some (.b true)=>exact fun h=>.inl ⟨rfl,h⟩
 | some (.b false)=>exact fun h=>.inr ⟨rfl,h⟩
 | none=>exact fun h=>absurd h (yZ _ _ _)
 | some .np|some .ns|some .nf|some .nm|some .ni|some .es|some .o|some (.y _)|some (.i _ _)|some (.s _ _)|some (.p _ _)|some (.sl _ _ _ _ _)|some (.f _ _ _)|some (.ag _)|some (.tu _)|some (.m _)|some (.it _ _)=>exact fun h=>absurd h (yZ _ _ _)
theorem condF_ok {n t:Nat} {a b:Code} {x y:Fn} (hx:FOkN TT FT SM n a x) (hy:FOkN TT FT SM n b y):FOkN TT FT SM n (.cond (.tmp t) a b) (.mk (condF t x y)):=by
 intro cx E M k ka z hR h
 refine cond_ok hx hy cx E M k ka hR ?_
 obtain ⟨t9,t1,_⟩:=@view_tag E M.S t
 refine jA (h:condB cx (x.run cx E M k ka) (y.run cx E M k ka) (yO (yT E (yG t)))=.g z) (fun h=>?_) fun e h=>.inl ⟨t9 (wJ e),h⟩
 exact jA h (fun h=>absurd h (yZ _ _ _)) fun e h=>.inr ⟨t1 (wJ e),h⟩
theorem cc_ok (n:Nat):∀ c:Code,FOkN TT FT SM n c (cc TT n c)
 | .skip=>fun cx E M k a z hR h=>⟨E,M,.normal,h,Ev.up (B:=0) fun f _=>rfl⟩
 | .label l=>fun cx E M k a z hR h=>⟨E,M,.normal,h,Ev.up (B:=0) fun f _=>rfl⟩
 | .exit i=>fun cx E M k a z hR h=>⟨E,M,.exit i,h,Ev.up (B:=0) fun f _=>rfl⟩
 | .ret=>fun cx E M k a z hR h=>⟨E,M,.ret,h,Ev.up (B:=0) fun f _=>rfl⟩
 | .region id ops true=>cR_ok n id ops
 | .region id ops false=>fun cx E M k a z hR h=>by
  obtain ⟨E',M',h2,B,hB⟩:=cL_ok n ops ops.toList hR (show (cL TT n ops ops.toList).run cx E M k a=.g z by rw [← cL2_eq]; exact h)
  exact ⟨E',M',.normal,h2,Ev.up (B:=B) fun f hf=>hB f hf⟩
 | .seq a b=>fun cx E M k ka z hR h=>by
  obtain ⟨E1,M1,e1,h1,B1,g1⟩:=cc_ok n a cx E M _ ka z hR h
  cases e1 with
  | normal =>
   obtain ⟨E2,M2,e2,h2,B2,g2⟩:=cc_ok n b cx E1 M1 k ka z hR h1
   exact ⟨E2,M2,e2,h2,Ev.up (B:=max B1 B2) fun f hf=>by simp only [uB]; rw [g1 f (by omega)]; exact g2 f (by omega)⟩
  | exit i=>exact ⟨E1,M1,.exit i,h1,Ev.up (B:=B1) fun f hf=>by simp only [uB]; rw [g1 f hf]⟩
  | ret=>exact ⟨E1,M1,.ret,h1,Ev.up (B:=B1) fun f hf=>by simp only [uB]; rw [g1 f hf]⟩
 | .cond (.tmp t) a b=>condF_ok (cc_ok n a) (cc_ok n b)
 | .cond (.const _) a b=>condG_ok (cc_ok n a) (cc_ok n b)
 | .cond (.global _) a b=>condG_ok (cc_ok n a) (cc_ok n b)
 | .cond (.func _) a b=>condG_ok (cc_ok n a) (cc_ok n b)
 | .block id b=>fun cx E M k ka z hR h=>by
  obtain ⟨E1,M1,e1,h1,B1,g1⟩:=cc_ok n b cx E M k (blockA id k ka) z hR h
  cases e1 with
  | normal=>exact ⟨E1,M1,.normal,h1,Ev.up (B:=B1) fun f hf=>by simp only [uB]; rw [g1 f hf]⟩
  | ret=>exact ⟨E1,M1,.ret,h1,Ev.up (B:=B1) fun f hf=>by simp only [uB]; rw [g1 f hf]⟩
  | exit i =>
   refine bool_split2 (h1:blockA id k ka (i+1) E1 M1=.g z) (fun hi h1=>?_) fun hi h1=>?_
   ·refine ⟨E1,M1,.exit i,h1,Ev.up (B:=B1) fun f hf=>?_⟩
    have hi:¬ i=id:=fun e=>by
     subst e
     rw [show Nat.beq (i+1) (Nat.succ i)=true by rw [Nat.beq_eq]] at hi
     cases hi
    simp only [uB]; rw [g1 f hf]
    simp only [cond_eq_ite,Nat.beq_eq,if_neg hi]
   ·have hi:=wJ hi
    simp only [Nat.succ_eq_add_one,Nat.add_right_cancel_iff] at hi
    exact ⟨E1,M1,.normal,h1,Ev.up (B:=B1) fun f hf=>by simp only [uB]; rw [g1 f hf]; simp [hi]⟩
 | .loop b=>fun cx E M k ka z hR h=>by
  obtain ⟨E1,M1,e1,h1,B,hB⟩:=loopN_ok (cc_ok n b) hR fuelL E M h
  exact ⟨E1,M1,e1,h1 k,Ev.up (B:=B) fun f hf=>by rw [step_loop]; exact hB f hf⟩
 | .rangeFunc ..=>badF_ok
 | .scope _=>badF_ok
 | .goto _=>badF_ok
 | .refuse _=>badF_ok
theorem argsN_ok :∀ (l:List AV) (i:Nat) (E:Nat) (S:SL) (c:Nat→SL→Ans),argsN l i E S c=.g z→∃ E' S',yS E' S'=uJ l (yS E S) i∧c E' S'=.g z
 | [],i,E,S,c,h=>⟨E,S,rfl,h⟩
 | v::l,i,E,S,c,h=>by
  simp only [argsN,cond_eq_ite,Nat.beq_eq] at h
  split at h
  ·obtain ⟨E',S',g1,g2⟩:=argsN_ok l _ _ _ _ h
   exact ⟨E',S',by rw [g1,view_big]; rfl,g2⟩
  ·rename_i hne
   obtain ⟨E',S',g1,g2⟩:=argsN_ok l _ _ _ _ h
   exact ⟨E',S',by rw [g1,vM ((enc_wr v).resolve_left hne)]; rfl,g2⟩
theorem runDN_ok {R:RT} (hR:RR TT FT SM R):∀ (D:DL) (H:T AO) (nx:Nat) (c:T AO→Nat→Ans),runDN R D H nx c=.g z→∃ H' nx',c H' nx'=.g z∧∃ B,∀ f,B≤f→runD (exec TT FT SM f) D H nx=some (H',nx')
 | [],H,nx,c,h=>⟨H,nx,h,0,fun f _=>rfl⟩
 | (k,cap,vs)::D,H,nx,c,h=>by
  obtain ⟨v,w,v',H1,nx1,⟨B1,hB1⟩,_,h1⟩:=hR.v h
  obtain ⟨H2,nx2,h2,B2,hB2⟩:=runDN_ok hR D H1 nx1 c h1
  refine ⟨H2,nx2,h2,max B1 B2,fun f hf=>?_⟩
  have:=hB1 f (by omega)
  simp only [cond_false] at this
  rw [runD,this]
  exact hB2 f (by omega)
theorem noD_ok {D:DL} (h:noD D=true):D=[]:=by
 cases D with
 | nil=>rfl
 | cons a l=>cases h
def FinOk (TT:Nat→Option TI) (FT:Nat→Option Func) (SM:T jJ) (b:Bool) (rs:List ResultVar) (K:KV) (E:Nat) (M:Mm) (z:Eff):Prop :=
 ∃ l w v' H' nx',VW w v' (oneA l)∧K w v' H' nx'=.g z∧(b=false→M.D=[])∧resA TT (yS E M.S) H' rs=some l∧∃ B,∀ f,B≤f→runD (exec TT FT SM f) M.D M.H M.nx=some (H',nx')
theorem finG_ok {cx:Cx} {b:Bool} {rs:List ResultVar} {K:KV} {E:Nat} {M:Mm} (hR:RR TT FT SM cx.R) (h:finG TT cx b rs K E M=.g z):FinOk TT FT SM b rs K E M z:=by
 unfold finG at h
 by_cases hd:or b (noD M.D)=true
 ·rw [hd] at h
  obtain ⟨H2,nx2,h5,B2,hB2⟩:=runDN_ok hR _ _ _ _ h
  rcases hres:resA TT (yS E M.S) H2 rs with _|l
  ·rw [hres] at h5; exact absurd h5 (yZ _ _ _)
  ·rw [hres] at h5
   refine ⟨l,_,_,H2,nx2,enc_vw _,h5,fun hb=>?_,hres,B2,hB2⟩
   subst hb
   exact noD_ok (by simpa using hd)
 ·rw [Bool.eq_false_iff.2 hd,cond_false] at h; exact absurd h (yZ _ _ _)
theorem fin1_ok {t:Nat} {cx:Cx} {b:Bool} {K:KV} {E:Nat} {M:Mm} (hR:RR TT FT SM cx.R) (h:fin1 TT t cx b K E M=.g z):FinOk TT FT SM b [.tmp t] K E M z:=by
 refine jA h (finG_ok hR) fun hc h=>?_
 obtain ⟨h1,h2⟩:=jH hc
 obtain ⟨v,h3,h4⟩:=tagOK_dec h1
 refine ⟨[v],_,_,M.H,M.nx,.inr ⟨h4,h3,slot_lt _ _⟩,h,fun _=>noD_ok h2,?_,0,fun f _=>by rw [noD_ok h2]; rfl⟩
 simp only [resA,view_get h1,h3]
theorem finN_ok {cx:Cx} {b:Bool} {rs:List ResultVar} {K:KV} {E:Nat} {M:Mm} (hR:RR TT FT SM cx.R) (h:(finN TT rs).run cx b K E M=.g z):FinOk TT FT SM b rs K E M z:=by
 unfold finN at h
 split at h
 ·exact fin1_ok hR h
 ·exact finG_ok hR h
theorem fnB_ok {R:RT} (hR:RR TT FT SM R) {b:Bool} {k:Nat} {fn:Func} {c:Code} (hk:FT k=some fn) (hb:fn.body=some c) (hs:b=true→SM.get k=none) {vs:List AV} (hl:Nat.ble vs.length fn.ntmps=true) {H:T AO} {nx:Nat} {K:KV} {E:Nat} {S:SL}
  (hE:yS E S=uJ vs En.e 0) (h:fnB (cc TT fn.ntmps c) (finN TT fn.results.toList) ⟨R,k⟩ b K E ⟨S,H,nx,[]⟩=.g z) :
  ∃ v w v' H' nx',Ev TT FT SM (bif b then .fn k vs H nx else .dfn k vs H nx) (.val v H' nx')∧VW w v' v∧K w v' H' nx'=.g z:=by
 obtain ⟨E',M',e,h4,B,hB⟩:=cc_ok fn.ntmps c ⟨R,k⟩ E ⟨S,H,nx,[]⟩ _ _ z hR h
 have hB:∀ f,B≤f→exec TT FT SM f (.code fn.ntmps c ⟨uJ vs .e 0,H,nx,[]⟩)=.ok e (wD E' M'):=by
  intro f hf
  have:=hB f hf
  simp only [wD,hE] at this
  exact this
 have hf:(e=.normal∨e=.ret)∧(finN TT fn.results.toList).run ⟨R,k⟩ b K E' M'=.g z:=by
  cases e with
  | normal=>exact ⟨.inl O,h4⟩
  | ret=>exact ⟨.inr O,h4⟩
  | exit i=>exact absurd (h4:stop _ _ _=.g z) (yZ _ _ _)
 obtain ⟨he,hf⟩:=hf
 obtain ⟨l,w,v',H2,nx2,hw,h5,hD,hres,B2,hB2⟩:=finN_ok (cx:=⟨R,k⟩) hR hf
 refine ⟨oneA l,w,v',H2,nx2,Ev.up (B:=max B B2) fun f hf'=>?_,hw,h5⟩
 have g1:=hB f (by omega)
 have g2:=hB2 f (by omega)
 cases b with
 | true =>
  simp only [cond_true,uB,hs O,hk,hb,hl,g1]
  rcases he with rfl|rfl<;>simp only [wD,g2,hres]
 | false =>
  have hD:=hD O
  rw [hD] at g2
  simp only [runD,Option.some.injEq,Prod.mk.injEq] at g2
  obtain ⟨e1,e2⟩:=g2
  simp only [cond_false,uB,hk,hb,hl,cond_true,g1]
  rcases he with rfl|rfl<;>simp only [wD,hD,e1,e2,hres]
theorem cFn_v {R:RT} (hR:RR TT FT SM R) {b:Bool} {k:Nat} (hs:b=true→SM.get k=none) {vs:List AV} {H:T AO} {nx:Nat} {K:KV} (h:(cFn TT FT k).rv R b vs H nx K=.g z) :
  ∃ v w v' H' nx',Ev TT FT SM (bif b then .fn k vs H nx else .dfn k vs H nx) (.val v H' nx')∧VW w v' v∧K w v' H' nx'=.g z:=by
 unfold cFn at h
 rcases hk:FT k with _|fn
 ·simp only [hk] at h
  exact absurd h bad_ne
 ·simp only [hk] at h
  rcases hb:fn.body with _|c
  ·simp only [hb] at h; exact absurd h bad_ne
  ·simp only [hb] at h
   replace h:fnG k fn.ntmps (cc TT fn.ntmps c) (finN TT fn.results.toList) R b vs H nx K=.g z:=h
   unfold fnG at h
   by_cases hl:Nat.ble vs.length fn.ntmps=true
   ·rw [hl] at h
    obtain ⟨E,S,h1,h2⟩:=argsN_ok vs 0 0 [] _ h
    exact fnB_ok hR hk hb hs hl (by rw [h1,view_zero]) h2
   ·rw [Bool.eq_false_iff.2 hl] at h; exact absurd h bad_ne
theorem cFn_w {R:RT} (hR:RR TT FT SM R) {k:Nat} (hs:SM.get k=none) {vs:List AV} {H:T AO} {nx:Nat} {K:KV} {E m:Nat} (hm:vs.length=m) (hE:yS E []=uJ vs En.e 0) (h:(cFn TT FT k).rw R E m H nx K=.g z) :
  ∃ v w v' H' nx',Ev TT FT SM (.fn k vs H nx) (.val v H' nx')∧VW w v' v∧K w v' H' nx'=.g z:=by
 unfold cFn at h
 rcases hk:FT k with _|fn
 ·simp only [hk] at h
  exact absurd h bad_ne
 ·simp only [hk] at h
  rcases hb:fn.body with _|c
  ·simp only [hb] at h; exact absurd h bad_ne
  ·simp only [hb] at h
   refine jA (h:fnW k fn.ntmps (cc TT fn.ntmps c) (finN TT fn.results.toList) R E m H nx K=.g z) (fun h=>absurd h bad_ne) fun hl h=>?_
   exact fnB_ok (b:=true) hR hk hb (fun _=>hs) (by rw [hm]; exact hl) hE h
theorem argsV_get :∀ {vs:List AV} {E:En} {i j:Nat},(uJ vs E i).get j=if i≤j∧j<i+vs.length then vs[j - i]? else E.get j
 | [],E,i,j=>by rw [if_neg (by simp)]; rfl
 | v::vs,E,i,j=>by
  rw [uJ,argsV_get,En.get_put]
  simp only [Nat.succ_eq_add_one,List.length_cons]
  by_cases h:i+1≤j∧j<i+1+vs.length
  ·rw [if_pos h,if_pos (by omega),show j - i=(j - (i+1))+1 by omega,List.getElem?_cons_succ]
  ·rw [if_neg h]
   by_cases hj:j=i
   ·subst hj; rw [if_pos rfl,if_pos (by omega)]; simp
   ·rw [if_neg hj,if_neg (by omega)]
theorem argsB_ok {E:Nat} {us:List AV} (hE:yS E []=uJ us En.e 0):∀ {m i:Nat} {vs:List AV},i+m=us.length→argsB E m i=some vs→vs=us.drop i
 | 0,i,vs,hm,h=>by
  simp only [argsB,Option.some.injEq] at h; subst h
  rw [List.drop_of_length_le (by omega)]
 | m+1,i,vs,hm,h=>by
  simp only [argsB] at h
  split at h
  ·cases h
  ·rename_i v hv
   split at h
   ·cases h
   ·rename_i l hl
    simp only [Option.some.injEq] at h; subst h
    have e:=argsB_ok hE (by omega:Nat.succ i+m=us.length) hl
    have e1:(yS E []).get i=some v:=(view_get (vT hv)).trans hv
    rw [hE,argsV_get,if_pos (by omega),Nat.sub_zero] at e1
    rw [e,List.drop_eq_getElem_cons (by omega:i<us.length)]
    rw [List.getElem?_eq_getElem (by omega)] at e1
    simp only [Option.some.injEq] at e1
    rw [e1]
theorem sum_ok {k:Nat} {F:jJ} (hs:SM.get k=some F) {vs:List AV} {H:T AO} {nx:Nat} {K:KV} (h:sumK k K (F vs H nx)=.g z) :
  ∃ v w v' H' nx',Ev TT FT SM (.fn k vs H nx) (.val v H' nx')∧VW w v' v∧K w v' H' nx'=.g z:=by
 rcases hF:F vs H nx with _|⟨v,H',nx'⟩
 ·rw [hF] at h
  exact absurd h bad_ne
 ·rw [hF] at h
  exact ⟨v,_,_,H',nx',Ev.up (B:=0) fun f _=>by simp only [uB,hs,hF],enc_vw v,h⟩
theorem callN_ok :∀ d,RR TT FT SM (callN TT FT SM d)
 | 0=>⟨fun h=>(by cases h),fun h=>(by cases h)⟩
 | d+1=>by
  have ih:=callN_ok d
  refine ⟨fun {b k vs H nx K z} h=>?_,fun {k E m vs H nx K z} h hm hE=>?_⟩
  ·replace h:(cCn TT FT SM k).rv (callN TT FT SM d) b vs H nx K=.g z:=h
   unfold cCn at h
   rcases hs:SM.get k with _|F
   ·simp only [hs] at h
    exact cFn_v ih (fun _=>hs) h
   ·simp only [hs] at h
    replace h:sumG TT FT k F (callN TT FT SM d) b vs H nx K=.g z:=h
    unfold sumG at h
    cases b with
    | false=>exact cFn_v ih (fun e=>by cases e) h
    | true =>
     rw [cond_true] at h
     obtain ⟨v,w,v',H',nx',h1,h2⟩:=sum_ok hs h
     exact ⟨v,w,v',H',nx',h1,h2⟩
  ·replace h:(cCn TT FT SM k).rw (callN TT FT SM d) E m H nx K=.g z:=h
   unfold cCn at h
   rcases hs:SM.get k with _|F
   ·simp only [hs] at h
    exact cFn_w ih hs hm hE h
   ·simp only [hs] at h
    replace h:sumW k F (callN TT FT SM d) E m H nx K=.g z:=h
    unfold sumW at h
    rcases ha:argsB E m 0 with _|us
    ·rw [ha] at h; exact absurd h bad_ne
    ·rw [ha] at h
     have e:=argsB_ok hE (by omega:0+m=vs.length) ha
     rw [List.drop_zero] at e; subst e
     exact sum_ok hs h
end
theorem runN_true {P:Program} {TT:Nat→Option TI} {FT:Nat→Option Func} {SM:T jJ} (hT:TOk P TT) (hF:FOk P FT) (hm:P.follows .mixedOrders=true) (hM:SOk P SM) {d k:Nat} (h:isG (runN TT FT SM d k)=true) (w0:World):Spec P w0 k [] 0 fun v _=>v=.bool true:=by
 have hz:∃ z,runN TT FT SM d k=.g z:=by
  cases hr:runN TT FT SM d k with
  | g z=>exact ⟨z,rfl⟩
  | bad n=>rw [hr] at h; cases h
 obtain ⟨z,hz⟩:=hz
 obtain ⟨v,w,v',H,nx,⟨B,hB⟩,hw,h⟩:=(callN_ok (TT:=TT) (FT:=FT) (SM:=SM) d).v hz
 refine exec_true hm hT hF hM (f:=B) ?_ w0
 have:=hB B (Nat.le_refl _)
 rw [cond_true] at this
 rw [this]
 unfold yesK at h
 rw [cond_eq_ite] at h
 split at h
 ·rename_i ht
  have ht:=wJ ht
  rcases hw with ⟨rfl,_⟩|⟨_,hd,_⟩
  ·exact absurd ht (by decide)
  ·rw [dec_t ht] at hd
   simp only [Option.some.injEq] at hd; subst hd; rfl
 ·exact absurd h bad_ne
end
end Ab
namespace Ab
noncomputable section
def valK (w:Nat) (v:AV):AV:=bif Nat.beq w 255 then v else (match dec w with
 | some u=>u
 | none=>v)
theorem valK_eq {w:Nat} {v' v:AV} (h:VW w v' v):valK w v'=v:=by
 unfold valK
 rcases h with ⟨rfl,rfl⟩|⟨h1,h2,_⟩
 ·rfl
 ·rw [h2,cond_eq_ite]
  split
  ·rename_i e
   rw [wJ e] at h1
   exact absurd O h1
  ·rfl
section
variable {P:Program} {TT:Nat→Option TI} {FT:Nat→Option Func} {SM:T jJ}
def thenN (R:RT) (k:Nat) (vs:List AV) (H:T AO) (nx:Nat) (c:AV→T AO→Nat→Ans):Ans:=R.rv true k vs H nx fun w v H nx=>c (valK w v) H nx
theorem thenN_ok {d k:Nat} {vs:List AV} {H:T AO} {nx:Nat} {c:AV→T AO→Nat→Ans} {z:Eff} (h:thenN (callN TT FT SM d) k vs H nx c=.g z):∃ v H' nx',Ev TT FT SM (.fn k vs H nx) (.val v H' nx')∧c v H' nx'=.g z:=by
 obtain ⟨v,w,v',H',nx',h1,h2,h3⟩:=(callN_ok (TT:=TT) (FT:=FT) (SM:=SM) d).v h
 refine ⟨v,H',nx',h1,?_⟩
 rw [← valK_eq h2]; exact h3
theorem ev_spec (hm:P.follows .mixedOrders=true) (hT:TOk P TT) (hF:FOk P FT) (hM:SOk P SM) {k:Nat} {vs:List AV} {H H':T AO} {nx nx':Nat} {v:AV} (h:Ev TT FT SM (.fn k vs H nx) (.val v H' nx')) {w0:World} {V:Val} {us:List Value} {h0:Hp} (hl:RL V vs us) (hh:RH P V H nx h0) :
  Spec P w0 k us h0 fun u h'=>∃ V',V≤V'∧R V' v u∧RH P V' H' nx' h':=by
 obtain ⟨B,hB⟩:=h
 exact ((exec_snd hm hT hF hM B).fn (hB B (Nat.le_refl _))).2 hl hh
end
end
end Ab
set_option maxHeartbeats 16000000
set_option maxRecDepth 4000
set_option synthInstance.maxHeartbeats 400000
set_option synthInstance.maxSize 100000
attribute [local irreducible] vK xJ HoldW
namespace Ab
noncomputable section
def bA (b:Bt):AV:=.i .u8 b.val
def bV (b:Bt):Value:=.int .u8 ((b.val:Nat):Int)
def allB :List AV→Bool
 | []=>true
 | .i .u8 _::l=>allB l
 | _=>false
def slB (H:T AO) (a:AV):Option (List AV):=match a with
 | .sl id off len _ _=>match H.get id with
  | some (.c e n kn s)=>(match readN (.c e n kn s) len off with
   | some l=>bif allB l then some l else none
   | none=>none)
  | _=>none
 | .es=>some []
 | .ns=>some []
 | _=>none
theorem u8_small (u:Nat) (h:u<256):IntKind.u8.wrap (u:Int)=(u:Int):=by rw [u8_wrap]; omega
theorem allB_ok {V:Val}:∀ {l:List AV} {us:List Value},allB l=true→RL V l us→∃ bs:List Bt,l=bs.map bA∧us=bs.map bV
 | [],us,_,h=>⟨[],rfl,RL.nil.1 h⟩
 | a::l,us,hb,h=>by
  obtain ⟨v,us',rfl,h1,h2⟩:=RL.cons.1 h
  unfold allB at hb
  split at hb
  ·rename_i e; cases e
  ·rename_i u l' e
   simp only [List.cons.injEq] at e
   obtain ⟨rfl,rfl⟩:=e
   obtain ⟨bs,rfl,rfl⟩:=allB_ok hb h2
   unfold R at h1
   obtain ⟨hu,rfl⟩:=h1
   have hu:u<256:=hu
   exact ⟨⟨u,hu⟩::bs,rfl,by rw [u8_small u hu]; rfl⟩
  ·cases hb
section
variable {V:Val} {H:T AO} {nx:Nat} {h:Hp} {w0:World}
theorem flat_bV :∀ bs:List Bt,(bs.map Sl.cellB).flatten=bs.map bV
 | []=>rfl
 | x::l=>by rw [List.map_cons,List.flatten_cons,flat_bV l]; rfl
theorem RL_bA {V:Val}:∀ bs:List Bt,RL V (bs.map bA) (bs.map bV)
 | []=>RL.nil.2 O
 | x::l=>RL.mk (by unfold bA R; exact ⟨x.isLt,by rw [u8_small _ x.isLt]; rfl⟩) (RL_bA l)
theorem rdB_map (bs:List Bt):vI (Rep.rd w0 h) bs (bs.map fun b=>[bV b]):=rdB_enc.2 O
theorem slB_ok (hH:RH Tryz.prog V H nx h) {a:AV} {l:List AV} {v:Value} (hl:slB H a=some l) (hr:R V a v):∃ bs:List Bt,l=bs.map bA∧RdL w0 h v bs:=by
 unfold slB at hl
 split at hl
 ·rename_i id off len cap kn
  split at hl
  ·rename_i e n kn' s ho
   split at hl
   ·rename_i l' hrd
    rw [cond_eq_ite] at hl
    split at hl
    ·rename_i hall
     simp only [Option.some.injEq] at hl
     subst hl
     unfold R at hr
     obtain ⟨b,C,hV,hle,rfl⟩:=hr
     obtain ⟨b',C',ob,Rr,hV',hh,hO⟩:=hH.has id _ ho
     rw [hV] at hV'
     simp only [Option.some.injEq,Prod.mk.injEq] at hV'
     obtain ⟨rfl,rfl⟩:=hV'
     obtain ⟨c,rfl,hO⟩:=ro_cells hO
     obtain ⟨r1,r2,r3,r4,r5⟩:=hO.readN hrd
     obtain ⟨bs,rfl,hus⟩:=allB_ok hall r4
     have hlen:bs.length=len:=by rw [← r3,List.length_map]
     refine ⟨bs,rfl,bs.map (fun b=>[bV b]),⟨some ⟨b,off,none⟩,_,by rw [List.length_map,hlen],fun x hx=>?_,fun i x hx=>⟨b,off,rfl,fun j u hu=>?_⟩⟩,rdB_map bs⟩
     ·obtain ⟨_,_,rfl⟩:=List.mem_map.1 hx; rfl
     ·rw [List.getElem?_map] at hx
      have hi:i<bs.length:=by
       have:=List.getElem?_eq_none (l:=bs) (i:=i)
       by_cases hi:i<bs.length
       ·exact hi
       ·rw [this (by omega)] at hx; cases hx
      rw [List.getElem?_eq_getElem hi] at hx
      simp only [Option.map_some,Option.some.injEq] at hx
      subst hx
      cases j with
      | succ j=>simp at hu
      | zero =>
       simp only [List.getElem?_cons_zero,Option.some.injEq] at hu
       subst hu
       have hg:((c.drop off).take len)[i]?=some (bV bs[i]):=by rw [hus,List.getElem?_map,List.getElem?_eq_getElem hi]; rfl
       rw [List.getElem?_take,if_pos (by omega),List.getElem?_drop] at hg
       have:Reads w0 (pt b (.cells c.toArray e (0,0))) ⟨b,off+i*1+0,none⟩ (bV bs[i]):=zQ (R:=0) (by rw [Nat.mul_one,Nat.add_zero]; exact hg)
       exact this.mono hh
    ·cases hl
   ·cases hl
  ·cases hl
 ·simp only [Option.some.injEq] at hl; subst hl
  unfold R at hr
  obtain ⟨a',c',rfl⟩:=hr
  exact ⟨[],rfl,[],⟨some a',c',rfl,by simp,by simp⟩,trivial⟩
 ·simp only [Option.some.injEq] at hl; subst hl
  unfold R at hr; subst hr
  exact ⟨[],rfl,RdL.nil _ _ _⟩
 ·cases hl
def freshB (l:List AV) (H:T AO) (nx:Nat):Eff:=(.sl nx 0 l.length 0 false,H.put (.c 5 l.length false (cellsOf l.length l)) nx,Nat.succ nx)
theorem cellsB :(Tryz.prog).cellsOf 5=1:=by kernel_rfl
theorem freshB_ok (hH:RH Tryz.prog V H nx h) {bs:List Bt} (hne:bs≠[]) {r:Value} {h2:Hp} (ho:OwL w0 0 bs r h2) (hsat:∃ w0 w fr,St w0 w (h+h2+fr)) :
  ∃ V',V≤V'∧R V' (freshB (bs.map bA) H nx).1 r∧RH Tryz.prog V' (freshB (bs.map bA) H nx).2.1 (freshB (bs.map bA) H nx).2.2 (h+h2):=by
 obtain ⟨es,⟨h1,hc⟩,hall⟩:=ho
 have hes:=rdB_enc.1 hall
 subst hes
 rcases hc with ⟨ad,rfl,hnil,rfl⟩|⟨b,cap,spare,rfl,rfl,h3,h4,h5⟩
 ·exact absurd (List.map_eq_nil_iff.1 hnil) hne
 have h3':bs.length≤cap:=by rw [List.length_map] at h3; exact h3
 have h5':spare.length=cap - bs.length:=by rw [List.length_map] at h5; rw [h5]; show _*1=_; omega
 have hle:V≤V.set nx b cap:=Val.le_set (hH.fresh nx (Nat.le_refl _))
 have h1':yW (bs.map bV):=fun u hu=>by obtain ⟨_,_,rfl⟩:=List.mem_map.1 hu; rfl
 have hO:RO Tryz.prog (V.set nx b cap) cap (.c 5 (bs.map bA).length false (cellsOf (bs.map bA).length (bs.map bA))) (.cells ((bs.map Sl.cellB).flatten++spare).toArray 5 (0,0)):=by
  rw [flat_bV]
  exact RO.freshN (RL_bA bs) h1' O (fun h=>by cases h) (fun _=>by rw [cellsB,List.length_map,h5']; omega)
 obtain ⟨w1,w,fr,hst⟩:=hsat
 obtain ⟨k1,k2⟩:=hH.new (b:=b) (C:=cap) ⟨w1,w,fr,by rw [← yH,jB (pt b _) h]; exact hst⟩ hO
 refine ⟨V.set nx b cap,k1,?_,by rw [jB]; exact k2⟩
 unfold freshB R
 exact ⟨b,cap,Val.set_self _ _ _ _,by rw [List.length_map]; show bs.length≤cap - 0; omega,by rw [List.length_map,List.length_map]; rfl⟩
end
def be8A (u:Nat):List AV:=[.i .u8 (Nat.mod (Nat.div u 72057594037927936) 256),.i .u8 (Nat.mod (Nat.div u 281474976710656) 256),.i .u8 (Nat.mod (Nat.div u 1099511627776) 256),.i .u8 (Nat.mod (Nat.div u 4294967296) 256),.i .u8 (Nat.mod (Nat.div u 16777216) 256),.i .u8 (Nat.mod (Nat.div u 65536) 256),.i .u8 (Nat.mod (Nat.div u 256) 256),.i .u8 (Nat.mod u 256)]
theorem be8A_eq {u:Nat} {v:Int} (h:v % 18446744073709551616=(u:Int)):be8A u=(be8 v).map bA:=by
 have hb:∀ i,(byteAt v i).val=u / 2 ^ (8*i) % 256:=fun i=>by
  show ((v % 18446744073709551616) / 2 ^ (8*i) % 256).toNat=_
  rw [h]
  have:((u:Int) / 2 ^ (8*i) % 256)=((u / 2 ^ (8*i) % 256:Nat):Int):=by simp
  rw [this,Int.toNat_natCast]
 have e:be8 v=[byteAt v 7,byteAt v 6,byteAt v 5,byteAt v 4,byteAt v 3,byteAt v 2,byteAt v 1,byteAt v 0]:=rfl
 rw [e]
 simp only [List.map_cons,List.map_nil,bA,hb]
 simp [be8A,Nat.div_one]
 exact ⟨rfl,rfl,rfl,rfl,rfl,rfl,rfl,rfl⟩
theorem i64_mod {u:Nat} (h:u<2 ^ IntKind.i64.bits):(IntKind.i64.wrap (u:Int)) % 18446744073709551616=(u:Int):=by
 have h:u<18446744073709551616:=h
 rw [i64_wrap]
 split<;>omega
def F_int :jJ:=fun vs H nx=>match vs with
 | [b,.i .i64 u]=>match slB H b with
  | some l=>bif Nat.ble l.length 1000000000 then some (freshB (l++be8A u) H nx) else none
  | none=>none
 | _=>none
def F_blob :jJ:=fun vs H nx=>match vs with
 | [b,p]=>match slB H b with
  | some l=>(match slB H p with
   | some q=>bif and (Nat.ble l.length 1000000000) (Nat.ble q.length 1000000000) then some (freshB (l++(be8A q.length++q)) H nx) else none
   | none=>none)
  | none=>none
 | _=>none
def crcA :List AV→Nat→Nat
 | .i _ c::l,r=>crcA l (crcS (crcS (crcS (crcS (crcS (crcS (crcS (crcS (Nat.xor r c)))))))))
 | _,r=>r
def F_more :jJ:=fun vs H nx=>match vs with
 | [.i .u32 s,b]=>match slB H b with
  | some l=>bif Nat.ble l.length 1000000000 then some (.i .u32 (Nat.sub 4294967295 (crcA l (Nat.sub 4294967295 s))),H,nx) else none
  | none=>none
 | _=>none
theorem crcA_eq :∀ (bs:List Bt) (r:Nat),crcA (bs.map bA) r=crcL r bs
 | [],r=>rfl
 | b::bs,r=>by
  rw [List.map_cons]
  show crcA (bs.map bA) _=_
  rw [crcA_eq bs]; rfl
theorem int_sum {k:Nat} [hf:Fun Tryz.prog k] (hs:∀ (w0:World) (X:Hp) (v:Value) (b:List Bt) (n:Int),RdL w0 X v b→b.length≤1000000000→Spec Tryz.prog w0 k [v,.int .i64 n] X (fun r h'=>∃ h,OwL w0 0 (b++be8 n) r h∧X+h=h')):jK Tryz.prog k F_int:=by
 refine ⟨⟨hf⟩,fun {w0 V vs us H nx h r} hl hH hF=>?_⟩
 unfold F_int at hF
 split at hF
 ·rename_i b u
  split at hF
  ·rename_i l hb
   rw [cond_eq_ite] at hF
   split at hF
   ·rename_i hle
    have hle:=Nat.le_of_ble_eq_true hle
    simp only [Option.some.injEq] at hF
    subst hF
    obtain ⟨v1,us',rfl,r1,hl'⟩:=RL.cons.1 hl
    obtain ⟨v2,us'',rfl,r2,hl''⟩:=RL.cons.1 hl'
    obtain rfl:=RL.nil.1 hl''
    obtain ⟨bs,rfl,hrd⟩:=slB_ok (w0:=w0) hH hb r1
    rw [List.length_map] at hle
    unfold R at r2
    obtain ⟨hu,rfl⟩:=r2
    intro w fr hst
    refine Calls.mono (hs w0 h v1 bs _ hrd hle w fr hst) ?_
    rintro e w' ⟨v,_,rfl,⟨h2,ho,rfl⟩,hst'⟩
    have hne:bs++be8 (IntKind.i64.wrap (u:Int))≠[]:=by
     intro e
     have:=congrArg List.length e
     rw [List.length_append,wI] at this
     simp at this
    have e1:List.map bA bs++be8A u=(bs++be8 (IntKind.i64.wrap (u:Int))).map bA:=by rw [List.map_append,be8A_eq (i64_mod hu)]
    rw [e1]
    obtain ⟨V',q1,q2,q3⟩:=freshB_ok hH hne ho ⟨w0,w',fr,hst'⟩
    exact ⟨v,_,rfl,⟨V',q1,q2,q3⟩,hst'⟩
   ·cases hF
  ·cases hF
 ·cases hF
theorem blob_sum {k:Nat} [hf:Fun Tryz.prog k] (hs:∀ (w0:World) (X:Hp) (v u:Value) (b p:List Bt),RdL w0 X v b→RdL w0 X u p→b.length≤1000000000→p.length≤1000000000→Spec Tryz.prog w0 k [v,u] X (fun r h'=>∃ h,OwL w0 0 (b++(be8 p.length++p)) r h∧X+h=h')):jK Tryz.prog k F_blob:=by
 refine ⟨⟨hf⟩,fun {w0 V vs us H nx h r} hl hH hF=>?_⟩
 unfold F_blob at hF
 split at hF
 ·rename_i b p
  split at hF
  ·rename_i l hb
   split at hF
   ·rename_i q hp
    rw [cond_eq_ite] at hF
    split at hF
    ·rename_i hle
     simp only [Bool.and_eq_true] at hle
     have hle1:=Nat.le_of_ble_eq_true hle.1
     have hle2:=Nat.le_of_ble_eq_true hle.2
     simp only [Option.some.injEq] at hF
     subst hF
     obtain ⟨v1,us',rfl,r1,hl'⟩:=RL.cons.1 hl
     obtain ⟨v2,us'',rfl,r2,hl''⟩:=RL.cons.1 hl'
     obtain rfl:=RL.nil.1 hl''
     obtain ⟨bs,rfl,hrd⟩:=slB_ok (w0:=w0) hH hb r1
     obtain ⟨ps,rfl,hrp⟩:=slB_ok (w0:=w0) hH hp r2
     rw [List.length_map] at hle1 hle2
     intro w fr hst
     refine Calls.mono (hs w0 h v1 v2 bs ps hrd hrp hle1 hle2 w fr hst) ?_
     rintro e w' ⟨v,_,rfl,⟨h2,ho,rfl⟩,hst'⟩
     have hne:bs++(be8 ps.length++ps)≠[]:=by
      intro e
      have:=congrArg List.length e
      rw [List.length_append,List.length_append,wI] at this
      simp at this
     have e1:List.map bA bs++(be8A (ps.map bA).length++ps.map bA)=(bs++(be8 ps.length++ps)).map bA:=by rw [List.map_append,List.map_append,List.length_map,be8A_eq (v:=((ps.length:Nat):Int)) (by omega)]
     rw [e1]
     obtain ⟨V',q1,q2,q3⟩:=freshB_ok hH hne ho ⟨w0,w',fr,hst'⟩
     exact ⟨v,_,rfl,⟨V',q1,q2,q3⟩,hst'⟩
    ·cases hF
   ·cases hF
  ·cases hF
 ·cases hF
theorem more_sum {k:Nat} [hf:Fun Tryz.prog k] (hs:∀ (w0:World) (X:Hp) (v:Value) (bs:List Bt) (s:Nat),s<4294967296→RdL w0 X v bs→bs.length≤1000000000→Spec Tryz.prog w0 k [.int .u32 (s:Int),v] X (fun r h'=>r=.int .u32 (crcF s bs:Nat)∧X=h')):jK Tryz.prog k F_more:=by
 refine ⟨⟨hf⟩,fun {w0 V vs us H nx h r} hl hH hF=>?_⟩
 unfold F_more at hF
 split at hF
 ·rename_i s b
  split at hF
  ·rename_i l hb
   rw [cond_eq_ite] at hF
   split at hF
   ·rename_i hle
    have hle:=Nat.le_of_ble_eq_true hle
    simp only [Option.some.injEq] at hF
    subst hF
    obtain ⟨v1,us',rfl,r1,hl'⟩:=RL.cons.1 hl
    obtain ⟨v2,us'',rfl,r2,hl''⟩:=RL.cons.1 hl'
    obtain rfl:=RL.nil.1 hl''
    obtain ⟨bs,rfl,hrd⟩:=slB_ok (w0:=w0) hH hb r2
    rw [List.length_map] at hle
    unfold R at r1
    obtain ⟨hu,rfl⟩:=r1
    have hu:s<4294967296:=hu
    rw [u32_in s hu]
    intro w fr hst
    refine Calls.mono (hs w0 h v2 bs s hu hrd hle w fr hst) ?_
    rintro e w' ⟨v,_,rfl,⟨rfl,rfl⟩,hst'⟩
    refine ⟨_,_,rfl,⟨V,Val.refl V,?_,hH⟩,hst'⟩
    rw [crcA_eq]
    unfold R
    refine ⟨show _<4294967296 from ?_,?_⟩
    ·show 4294967295 - _<_; omega
    ·show Value.int .u32 (crcF s bs:Nat)=Value.int .u32 (IntKind.u32.wrap ((crcF s bs:Nat):Int))
     rw [u32_in _ (by unfold crcF; omega)]
   ·cases hF
  ·cases hF
 ·cases hF
theorem SOk.put {SM:T jJ} (h:SOk Tryz.prog SM) {k:Nat} {F:jJ} (hk:jK Tryz.prog k F):SOk Tryz.prog (SM.put F k):=by
 intro k' F' hg
 rw [T.get_put] at hg
 split at hg
 ·rename_i e
  simp only [Option.some.injEq] at hg
  subst hg; subst e; exact hk
 ·exact h k' F' hg
end
end Ab
end Sl
end Go.Proofs.YtnkiahopaaibhaaGreat
namespace Go.Proofs.YtnkiahopaaibhaaGreat
open Go Go.RowKit
namespace Sl
namespace Ab
noncomputable section
def gN (n:Nat):Nat:=Nat.div (Nat.sub (Nat.pow 2 (Nat.mul 128 n)) 1) 340282366920938463463374607431768211455
def gS' :Nat→Nat
 | 0=>0
 | n+1=>2 ^ (128*n)+gS' n
theorem gS'_mul :∀ n,gS' n*340282366920938463463374607431768211455=2 ^ (128*n) - 1
 | 0=>rfl
 | n+1=>by
  rw [gS',Nat.add_mul,gS'_mul n,show 128*(n+1)=128*n+128 by omega,Nat.pow_add]
  have h:1≤2 ^ (128*n):=Nat.one_le_two_pow
  have e:(2:Nat) ^ 128=340282366920938463463374607431768211456:=by decide
  rw [e]
  generalize 2 ^ (128*n)=x at *
  omega
theorem gN_eq (n:Nat):gN n=gS' n:=by
 show (2 ^ (128*n) - 1) / 340282366920938463463374607431768211455=gS' n
 rw [← gS'_mul,Nat.mul_div_cancel _ (by decide)]
theorem gN_bit {m:Nat} (hm:m<2 ^ 128):∀ (n k i:Nat),i<128→(m*gN n).testBit (128*k+i)=(decide (k<n)&&m.testBit i):=by
 intro n
 rw [gN_eq]
 have hlt:∀ n,m*gS' n<2 ^ (128*n):=by
  intro n
  induction n with
  | zero=>simp [gS']
  | succ n ih =>
   rw [gS',Nat.mul_add,show 128*(n+1)=128*n+128 by omega,Nat.pow_add]
   have h1:m+1≤2 ^ 128:=hm
   have h2:(m+1)*2 ^ (128*n)≤2 ^ 128*2 ^ (128*n):=Nat.mul_le_mul_right _ h1
   rw [Nat.add_mul,Nat.one_mul] at h2
   rw [Nat.mul_comm (2 ^ (128*n)) (2 ^ 128)]
   omega
 induction n with
 | zero=>intro k i _; simp [gS']
 | succ n ih =>
  intro k i hi
  rw [gS',Nat.mul_add,Nat.mul_comm m (2 ^ (128*n)),Nat.testBit_two_pow_mul_add _ (hlt n)]
  by_cases h:k<n
  ·rw [if_pos (by omega),ih k i hi]; simp [h]; omega
  ·rw [if_neg (by omega)]
   by_cases h2:k=n
   ·subst h2
    rw [show 128*k+i - 128*k=i by omega]; simp
   ·rw [show (decide (k<n+1))=false by simp; omega,Bool.false_and]
    apply Nat.testBit_lt_two_pow
    exact Nat.lt_of_lt_of_le hm (Nat.pow_le_pow_right (by omega) (by omega))
def okB (B n:Nat):Bool:=Nat.beq (Nat.land B (Nat.mul 340282366920938463463374607431768146175 (gN n))) (Nat.mul 36 (gN n))
def cut (B k:Nat):Nat:=(B >>> (128*k)) % 2 ^ 128
theorem cut_bit (B k i:Nat):(cut B k).testBit i=(decide (i<128)&&B.testBit (128*k+i)):=by
 unfold cut; rw [Nat.testBit_mod_two_pow,Nat.testBit_shiftRight]
theorem okB_cut {B n k:Nat} (h:okB B n=true) (hk:k<n):cut B k=36+256*(cut B k / 256 % 256):=by
 unfold okB at h
 rw [Nat.beq_eq] at h
 have h:B &&& (340282366920938463463374607431768146175*gN n)=36*gN n:=h
 have hb:∀ i,i<128→(B.testBit (128*k+i)&&(340282366920938463463374607431768146175:Nat).testBit i)=(36:Nat).testBit i:=fun i hi=>by
  have:=congrArg (fun x=>x.testBit (128*k+i)) h
  simp only [Nat.testBit_and] at this
  rw [gN_bit (by decide) n k i hi,gN_bit (by decide) n k i hi] at this
  simpa [hk] using this
 have hm:∀ i,i<128→(340282366920938463463374607431768146175:Nat).testBit i=!(decide (8≤i)&&decide (i<16)):=by
  intro i hi
  have e:(340282366920938463463374607431768146175:Nat)=2 ^ 16*(2 ^ 112 - 1)+(2 ^ 8 - 1):=by decide
  rw [e,Nat.testBit_two_pow_mul_add _ (by decide)]
  by_cases h1:i<16
  ·rw [if_pos h1,Nat.testBit_two_pow_sub_one]
   by_cases h2:i<8
   ·simp [h2]
   ·simp [h2,h1]; omega
  ·rw [if_neg h1,Nat.testBit_two_pow_sub_one]
   simp [h1]; omega
 apply Nat.eq_of_testBit_eq
 intro i
 rw [show 36+256*(cut B k / 256 % 256)=2 ^ 8*(cut B k / 2 ^ 8 % 2 ^ 8)+36 by simp; omega,Nat.testBit_two_pow_mul_add _ (by decide),Nat.testBit_mod_two_pow,Nat.testBit_div_two_pow]
 have h36:∀ i,8≤i→(36:Nat).testBit i=false:=fun i hi=>Nat.testBit_lt_two_pow (Nat.lt_of_lt_of_le (by decide:36<2 ^ 8) (Nat.pow_le_pow_right (by omega) hi))
 by_cases h1:i<8
 ·rw [if_pos h1,cut_bit]
  have h2:=hb i (by omega)
  rw [hm i (by omega)] at h2
  have h3:i<128:=by omega
  simp [h1,h3] at h2 ⊢
  rw [← h2]; simp; intro hc; omega
 ·rw [if_neg h1]
  by_cases h2:i<16
  ·rw [show i - 8+8=i by omega]
   simp; intro _; omega
  ·rw [show decide (i - 8<8)=false by simp; omega,Bool.false_and,cut_bit]
   by_cases h3:i<128
   ·have h4:=hb i h3
    rw [hm i h3,h36 i (by omega)] at h4
    have h5:¬ (8≤i∧i<16):=by omega
    simp [h3]
    simpa [h2] using h4
   ·simp [h3]
def BW (B:Nat) (l:List Nat):Prop:=B<2 ^ (128*l.length)∧(∀ b∈l,b<256)∧∀ k b,l[k]?=some b→cut B k=36+256*b
theorem BW.nil :BW 0 []:=⟨by simp,by simp,by simp⟩
theorem BW.cat {A B:Nat} {l m:List Nat} (ha:BW A l) (hb:BW B m):BW (Nat.add A (Nat.mul B (Nat.pow 2 (Nat.mul 128 l.length)))) (l++m):=by
 obtain ⟨a1,a2,a3⟩:=ha
 obtain ⟨b1,b2,b3⟩:=hb
 show BW (A+B*2 ^ (128*l.length)) (l++m)
 refine ⟨?_,fun b hb=>by rcases List.mem_append.1 hb with h|h; exact a2 b h; exact b2 b h,fun k b hk=>?_⟩
 ·rw [List.length_append,Nat.mul_add,Nat.pow_add]
  have h:(B+1)*2 ^ (128*l.length)≤2 ^ (128*m.length)*2 ^ (128*l.length):=Nat.mul_le_mul_right _ b1
  rw [Nat.add_mul,Nat.one_mul,Nat.mul_comm (2 ^ (128*m.length))] at h
  omega
 ·have hbit:∀ i,(A+B*2 ^ (128*l.length)).testBit i=if i<128*l.length then A.testBit i else B.testBit (i - 128*l.length):=fun i=>by
   rw [Nat.add_comm,Nat.mul_comm,Nat.testBit_two_pow_mul_add _ a1]
  by_cases hkl:k<l.length
  ·rw [List.getElem?_append_left hkl] at hk
   rw [← a3 k b hk]
   apply Nat.eq_of_testBit_eq
   intro i
   rw [cut_bit,cut_bit,hbit]
   by_cases hi:i<128
   ·rw [if_pos (by omega)]
   ·simp [hi]
  ·rw [List.getElem?_append_right (by omega)] at hk
   rw [← b3 _ b hk]
   apply Nat.eq_of_testBit_eq
   intro i
   rw [cut_bit,cut_bit,hbit,if_neg (by omega),show 128*k+i - 128*l.length=128*(k - l.length)+i by omega]
theorem BW.one {b:Nat} (h:b<256):BW (36+256*b) [b]:=by
 refine ⟨?_,by simpa using h,fun k c hk=>?_⟩
 ·show _<2 ^ 128
  have:(2:Nat) ^ 128=340282366920938463463374607431768211456:=by decide
  omega
 ·cases k with
  | zero =>
   simp only [List.getElem?_cons_zero,Option.some.injEq] at hk; subst hk
   show (36+256*b) >>> 0 % 2 ^ 128=_
   rw [Nat.shiftRight_zero,Nat.mod_eq_of_lt]
   have:(2:Nat) ^ 128=340282366920938463463374607431768211456:=by decide
   omega
  | succ k=>simp at hk
def body (w off n:Nat):Nat:=Nat.mod (Nat.shiftRight w (yG off)) (Nat.pow 2 (Nat.mul 128 n))
theorem offs_def (k:Nat):yG k=256+128*k:=by
 first|rfl|(unfold yG; show _=_; omega)|(simp [yG]; omega)
theorem cut_body {w off n k:Nat} (hk:k<n):cut (body w off n) k=yT w (yG (off+k)):=by
 apply Nat.eq_of_testBit_eq
 intro i
 rw [cut_bit,slot_bit]
 show (decide (i<128)&&(((w >>> yG off) % 2 ^ (128*n)).testBit (128*k+i)))=_
 by_cases hi:i<128
 ·rw [Nat.testBit_mod_two_pow,Nat.testBit_shiftRight,offs_def,offs_def]
  rw [show decide (128*k+i<128*n)=true by simp; omega,show 256+128*off+(128*k+i)=256+128*(off+k)+i by omega]
  simp [hi]
 ·simp [hi]
def bytesW (B n:Nat):List Nat:=(List.range n).map fun k=>cut B k / 256 % 256
theorem body_BW {w off n:Nat} (h:okB (body w off n) n=true):BW (body w off n) (bytesW (body w off n) n):=by
 refine ⟨?_,fun b hb=>?_,fun k b hk=>?_⟩
 ·simp only [bytesW,List.length_map,List.length_range]
  exact Nat.mod_lt _ (Nat.two_pow_pos _)
 ·obtain ⟨k,_,rfl⟩:=List.mem_map.1 hb
  exact Nat.mod_lt _ (by decide)
 ·simp only [bytesW,List.getElem?_map] at hk
  have hlt:k<n:=by
   by_cases hlt:k<n
   ·exact hlt
   ·rw [List.getElem?_eq_none (by simp; omega)] at hk; cases hk
  rw [List.getElem?_range hlt] at hk
  simp only [Option.map_some,Option.some.injEq] at hk; subst hk
  exact okB_cut h hlt
theorem dec_byte {b:Nat} (h:b<256):dec (36+256*b)=some (.i .u8 b):=by
 have ht:yO (36+256*b)=kc .u8:=by show (36+256*b) % 256=36; omega
 rw [dec_int ht]
 have:iw (36+256*b)=b:=by
  show (36+256*b) >>> 8 % 18446744073709551616=b
  rw [Nat.shiftRight_eq_div_pow]; omega
 rw [this]
theorem unpk_body {w off:Nat}:∀ {n:Nat} {l:List Nat},l.length=n→(∀ b∈l,b<256)→(∀ k b,l[k]?=some b→yT w (yG (off+k))=36+256*b)→unpk w n off=some (l.map (.i .u8)):=by
 intro n
 induction n generalizing off with
 | zero=>intro l hl _ _; rw [List.eq_nil_of_length_eq_zero hl]; rfl
 | succ n ih =>
  intro l hl hb h
  cases l with
  | nil=>simp at hl
  | cons b l =>
   have h0:=h 0 b O
   rw [Nat.add_zero] at h0
   have:=ih (off:=Nat.succ off) (l:=l) (by simpa using hl) (fun c hc=>hb c (by simp [hc])) (fun k c hk=>by
    have:=h (k+1) c (by simpa using hk)
    rw [show Nat.succ off+k=off+(k+1) by omega]; exact this)
   simp only [unpk,h0,dec_byte (hb b (by simp)),this,List.map_cons]
def stirB (X:Nat):Nat:=Nat.add (Nat.mul X 115792089237316195423570985008687907853269984665640564039457584007913129639936) (Nat.mod X 18446744073709551557)
theorem slot_stirB {X:Nat} {l:List Nat} (h:BW X l) {k b:Nat} (hk:l[k]?=some b):dec (yT (stirB X) (yG k))=some (.i .u8 b):=by
 have e:yT (stirB X) (yG k)=cut X k:=by
  apply Nat.eq_of_testBit_eq
  intro i
  rw [cut_bit,slot_bit]
  have e2:stirB X=2 ^ 256*X+X % 18446744073709551557:=by
   show X*115792089237316195423570985008687907853269984665640564039457584007913129639936+X % 18446744073709551557=_
   rw [Nat.mul_comm]
  have hlt:X % 18446744073709551557<2 ^ 256:=Nat.lt_of_lt_of_le (Nat.mod_lt _ (by decide)) (by decide)
  rw [e2,Nat.testBit_two_pow_mul_add _ hlt,offs_def,if_neg (by omega),show 256+128*k+i - 256=128*k+i by omega]
 rw [e,h.2.2 k b hk,dec_byte (h.2.1 b (List.mem_of_getElem? hk))]
def pkB (H:T AO) (a:AV):Option (Nat × Nat):=match a with
 | .sl id off len _ _=>match H.get id with
  | some (.c e n kn (.pk w))=>bif and (Nat.ble (Nat.add off len) n) (okB (body w off len) len) then some (body w off len,len) else none
  | _=>none
 | .es=>some (0,0)
 | .ns=>some (0,0)
 | _=>none
def E8 (u:Nat):Nat:=Nat.add (Nat.add 36 (Nat.mul 256 (Nat.mod (Nat.div u 72057594037927936) 256))) (Nat.mul (Nat.add (Nat.add 36 (Nat.mul 256 (Nat.mod (Nat.div u 281474976710656) 256))) (Nat.mul (Nat.add (Nat.add 36 (Nat.mul 256 (Nat.mod (Nat.div u 1099511627776) 256))) (Nat.mul (Nat.add (Nat.add 36 (Nat.mul 256 (Nat.mod (Nat.div u 4294967296) 256))) (Nat.mul (Nat.add (Nat.add 36 (Nat.mul 256 (Nat.mod (Nat.div u 16777216) 256))) (Nat.mul (Nat.add (Nat.add 36 (Nat.mul 256 (Nat.mod (Nat.div u 65536) 256))) (Nat.mul (Nat.add (Nat.add 36 (Nat.mul 256 (Nat.mod (Nat.div u 256) 256))) (Nat.mul (Nat.add 36 (Nat.mul 256 (Nat.mod u 256))) 340282366920938463463374607431768211456)) 340282366920938463463374607431768211456)) 340282366920938463463374607431768211456)) 340282366920938463463374607431768211456)) 340282366920938463463374607431768211456)) 340282366920938463463374607431768211456)) 340282366920938463463374607431768211456)
def e8L (u:Nat):List Nat:=[Nat.mod (Nat.div u 72057594037927936) 256,Nat.mod (Nat.div u 281474976710656) 256,Nat.mod (Nat.div u 1099511627776) 256,Nat.mod (Nat.div u 4294967296) 256,Nat.mod (Nat.div u 16777216) 256,Nat.mod (Nat.div u 65536) 256,Nat.mod (Nat.div u 256) 256,Nat.mod u 256]
theorem BW.cons {b B:Nat} {l:List Nat} (hb:b<256) (h:BW B l):BW (Nat.add (Nat.add 36 (Nat.mul 256 b)) (Nat.mul B 340282366920938463463374607431768211456)) (b::l):=by
 have:=(BW.one hb).cat h
 exact this
theorem E8_BW (u:Nat):BW (E8 u) (e8L u):=by
 have m:∀ x,Nat.mod x 256<256:=fun x=>Nat.mod_lt _ (by decide)
 exact .cons (m _) (.cons (m _) (.cons (m _) (.cons (m _) (.cons (m _) (.cons (m _) (.cons (m _) (.one (m _))))))))
def catB (A n B:Nat):Nat:=Nat.add A (Nat.mul B (Nat.pow 2 (Nat.mul 128 n)))
def freshP (ti X n:Nat) (H:T AO) (nx:Nat):Eff:=(.sl nx 0 n 0 false,H.put (.c ti n false (.pk (stirB X))) nx,Nat.succ nx)
def F_intP (ti:Nat):jJ:=fun vs H nx=>match vs with
 | [b,.i .i64 u]=>match pkB H b with
  | some (B,n)=>bif Nat.ble n 4000 then some (freshP ti (catB B n (E8 u)) (Nat.add n 8) H nx) else none
  | none=>none
 | _=>none
def F_blobP (ti:Nat):jJ:=fun vs H nx=>match vs with
 | [b,p]=>match pkB H b with
  | some (B,n)=>(match pkB H p with
   | some (C,m)=>bif and (Nat.ble n 4000) (Nat.ble m 4000) then some (freshP ti (catB (catB B n (E8 m)) (Nat.add n 8) C) (Nat.add (Nat.add n 8) m) H nx) else none
   | none=>none)
  | none=>none
 | _=>none
theorem body_length (B n:Nat):(bytesW B n).length=n:=by simp [bytesW]
theorem freshP_ok {P:Program} {V:Val} {ti C X:Nat} {l:List Nat} (h:BW X l) (hc1:P.cellsOf ti=1) {us ws:List Value} (hl:RL V (l.map (.i .u8)) us) (h1:yW us) (hc:us.length+ws.length=C) :
  RO P V C (.c ti l.length false (.pk (stirB X))) (.cells (us++ws).toArray ti (0,0)):=by
 have hlen:=hl.length
 rw [List.length_map] at hlen
 refine ⟨trivial,us++ws,rfl,?_,?_,(fun h=>by cases h),(fun _=>by rw [List.length_append,hc,hc1,Nat.mul_one]),fun k v hk hv=>?_⟩
 ·exact fun j u hj hu=>h1 u (List.mem_of_getElem? (by rwa [List.getElem?_append_left (by omega)] at hu))
 ·rw [List.length_append]; omega
 ·have hv:dec (yT (stirB X) (yG k))=some v:=hv
  rw [slot_stirB h (List.getElem?_eq_getElem hk)] at hv
  simp only [Option.some.injEq] at hv; subst hv
  obtain ⟨u,h3,h4⟩:=hl.get (i:=k) (a:=.i .u8 l[k]) (by simp [hk])
  exact ⟨u,by rw [List.getElem?_append_left (List.getElem?_eq_some_iff.1 h3).1]; exact h3,h4⟩
end
end Ab
set_option maxHeartbeats 4000000
attribute [local irreducible] vK xJ HoldW
namespace Ab
noncomputable section
section
variable {V:Val} {H:T AO} {nx:Nat} {h:Hp} {w0:World}
theorem map_bA (bs:List Bt):(bs.map (·.val)).map (AV.i .u8)=bs.map bA:=by rw [List.map_map]; rfl
theorem allB_map :∀ l:List Nat,allB (l.map (.i .u8))=true
 | []=>rfl
 | _::l=>allB_map l
theorem pkB_slB {a:AV} {B n:Nat} (hb:pkB H a=some (B,n)):∃ l:List Nat,l.length=n∧BW B l∧slB H a=some (l.map (.i .u8)):=by
 unfold pkB at hb
 split at hb
 ·rename_i id off len cap kn
  split at hb
  ·rename_i e m kk w ho
   rw [cond_eq_ite] at hb
   split at hb
   ·rename_i hc
    simp only [Bool.and_eq_true] at hc
    simp only [Option.some.injEq,Prod.mk.injEq] at hb
    obtain ⟨rfl,rfl⟩:=hb
    have hbw:=body_BW hc.2
    have hrd:readN (.c e m kk (.pk w)) len off=some ((bytesW (body w off len) len).map (.i .u8)):=by
     have hle:Nat.ble (Nat.add off len) m=true:=hc.1
     simp only [readN,hle,cond_true]
     refine unpk_body (body_length _ _) hbw.2.1 fun k b hk=>?_
     rw [← hbw.2.2 k b hk,cut_body]
     have:=(List.getElem?_eq_some_iff.1 hk).1
     rwa [body_length] at this
    refine ⟨bytesW (body w off len) len,body_length _ _,hbw,?_⟩
    simp only [slB,ho,hrd,allB_map,cond_true]
   ·cases hb
  ·cases hb
 ·simp only [Option.some.injEq,Prod.mk.injEq] at hb
  obtain ⟨rfl,rfl⟩:=hb
  exact ⟨[],rfl,BW.nil,rfl⟩
 ·simp only [Option.some.injEq,Prod.mk.injEq] at hb
  obtain ⟨rfl,rfl⟩:=hb
  exact ⟨[],rfl,BW.nil,rfl⟩
 ·cases hb
theorem bA_inj :∀ {l:List Nat} {bs:List Bt},l.map (AV.i .u8)=bs.map bA→l=bs.map (·.val)
 | [],[],_=>rfl
 | [],_::_,h=>by simp at h
 | _::_,[],h=>by simp at h
 | x::l,b::bs,h=>by
  simp only [List.map_cons,List.cons.injEq,bA,AV.i.injEq,true_and] at h
  rw [List.map_cons,h.1,bA_inj h.2]
theorem freshP_at (hH:RH Tryz.prog V H nx h) {bs:List Bt} (hne:bs≠[]) {r:Value} {h2:Hp} (ho:OwL w0 0 bs r h2) (hsat:∃ w0 w fr,St w0 w (h+h2+fr)) {X n:Nat} (hX:BW X (bs.map (·.val))) (hn:n=bs.length) :
  ∃ V',V≤V'∧R V' (freshP 5 X n H nx).1 r∧RH Tryz.prog V' (freshP 5 X n H nx).2.1 (freshP 5 X n H nx).2.2 (h+h2):=by
 subst hn
 obtain ⟨es,⟨h1,hc⟩,hall⟩:=ho
 have hes:=rdB_enc.1 hall
 subst hes
 rcases hc with ⟨ad,rfl,hnil,rfl⟩|⟨b,cap,spare,rfl,rfl,h3,h4,h5⟩
 ·exact absurd (List.map_eq_nil_iff.1 hnil) hne
 have h3':bs.length≤cap:=by rw [List.length_map] at h3; exact h3
 have h5':spare.length=cap - bs.length:=by rw [List.length_map] at h5; rw [h5]; show _*1=_; omega
 have hle:V≤V.set nx b cap:=Val.le_set (hH.fresh nx (Nat.le_refl _))
 have h1':yW (bs.map bV):=fun u hu=>by obtain ⟨_,_,rfl⟩:=List.mem_map.1 hu; rfl
 have hO:RO Tryz.prog (V.set nx b cap) cap (.c 5 bs.length false (.pk (stirB X))) (.cells ((bs.map Sl.cellB).flatten++spare).toArray 5 (0,0)):=by
  rw [flat_bV]
  have:=freshP_ok (P:=Tryz.prog) (V:=V.set nx b cap) (ti:=5) (C:=cap) (us:=bs.map bV) (ws:=spare) hX cellsB (by rw [map_bA]; exact RL_bA bs) h1' (by rw [List.length_map,h5']; omega)
  rwa [List.length_map] at this
 obtain ⟨w1,w,fr,hst⟩:=hsat
 obtain ⟨k1,k2⟩:=hH.new (b:=b) (C:=cap) ⟨w1,w,fr,by rw [← yH,jB (pt b _) h]; exact hst⟩ hO
 refine ⟨V.set nx b cap,k1,?_,by rw [jB]; exact k2⟩
 unfold freshP R
 exact ⟨b,cap,Val.set_self _ _ _ _,by show bs.length≤cap - 0; omega,by rw [List.length_map]; rfl⟩
end
theorem e8_be8 {u:Nat} (hu:u<2 ^ IntKind.i64.bits):(be8 (IntKind.i64.wrap (u:Int))).map (·.val)=e8L u:=by
 have h:=be8A_eq (i64_mod hu)
 have:(e8L u).map (AV.i .u8)=(be8 (IntKind.i64.wrap (u:Int))).map bA:=h
 exact (bA_inj this).symm
theorem intP_sum {k:Nat} [hf:Fun Tryz.prog k] (hs:∀ (w0:World) (X:Hp) (v:Value) (b:List Bt) (n:Int),RdL w0 X v b→b.length≤1000000000→Spec Tryz.prog w0 k [v,.int .i64 n] X (fun r h'=>∃ h,OwL w0 0 (b++be8 n) r h∧X+h=h')):jK Tryz.prog k (F_intP 5):=by
 refine ⟨⟨hf⟩,fun {w0 V vs us H nx h r} hl hH hF=>?_⟩
 unfold F_intP at hF
 split at hF
 ·rename_i b u
  split at hF
  ·rename_i B n hb
   rw [cond_eq_ite] at hF
   split at hF
   ·rename_i hle
    have hle:n≤4000:=Nat.le_of_ble_eq_true hle
    simp only [Option.some.injEq] at hF
    subst hF
    obtain ⟨v1,us',rfl,r1,hl'⟩:=RL.cons.1 hl
    obtain ⟨v2,us'',rfl,r2,hl''⟩:=RL.cons.1 hl'
    obtain rfl:=RL.nil.1 hl''
    obtain ⟨l,hln,hB,hsl⟩:=pkB_slB hb
    obtain ⟨bs,hbs,hrd⟩:=slB_ok (w0:=w0) hH hsl r1
    have hlb:=bA_inj hbs
    subst hlb
    rw [List.length_map] at hln
    unfold R at r2
    obtain ⟨hu,rfl⟩:=r2
    intro w fr hst
    refine Calls.mono (hs w0 h v1 bs _ hrd (by omega) w fr hst) ?_
    rintro e w' ⟨v,_,rfl,⟨h2,ho,rfl⟩,hst'⟩
    have hne:bs++be8 (IntKind.i64.wrap (u:Int))≠[]:=by
     intro e
     have:=congrArg List.length e
     rw [List.length_append,wI] at this
     simp at this
    have hX:BW (catB B n (E8 u)) ((bs++be8 (IntKind.i64.wrap (u:Int))).map (·.val)):=by
     rw [List.map_append,e8_be8 hu,← hln,← List.length_map (f:=fun (x:Bt)=>x.val)]
     exact hB.cat (E8_BW u)
    obtain ⟨V',q1,q2,q3⟩:=freshP_at (n:=Nat.add n 8) hH hne ho ⟨w0,w',fr,hst'⟩ hX (by rw [List.length_append,wI,hln])
    exact ⟨v,_,rfl,⟨V',q1,q2,q3⟩,hst'⟩
   ·cases hF
  ·cases hF
 ·cases hF
theorem blobP_sum {k:Nat} [hf:Fun Tryz.prog k] (hs:∀ (w0:World) (X:Hp) (v u:Value) (b p:List Bt),RdL w0 X v b→RdL w0 X u p→b.length≤1000000000→p.length≤1000000000→Spec Tryz.prog w0 k [v,u] X (fun r h'=>∃ h,OwL w0 0 (b++(be8 p.length++p)) r h∧X+h=h')):jK Tryz.prog k (F_blobP 5):=by
 refine ⟨⟨hf⟩,fun {w0 V vs us H nx h r} hl hH hF=>?_⟩
 unfold F_blobP at hF
 split at hF
 ·rename_i b p
  split at hF
  ·rename_i B n hb
   split at hF
   ·rename_i C m hp
    rw [cond_eq_ite] at hF
    split at hF
    ·rename_i hle
     simp only [Bool.and_eq_true] at hle
     have hle1:n≤4000:=Nat.le_of_ble_eq_true hle.1
     have hle2:m≤4000:=Nat.le_of_ble_eq_true hle.2
     simp only [Option.some.injEq] at hF
     subst hF
     obtain ⟨v1,us',rfl,r1,hl'⟩:=RL.cons.1 hl
     obtain ⟨v2,us'',rfl,r2,hl''⟩:=RL.cons.1 hl'
     obtain rfl:=RL.nil.1 hl''
     obtain ⟨l,hln,hB,hsl⟩:=pkB_slB hb
     obtain ⟨bs,hbs,hrd⟩:=slB_ok (w0:=w0) hH hsl r1
     have hlb:=bA_inj hbs
     subst hlb
     obtain ⟨l2,hln2,hC,hsl2⟩:=pkB_slB hp
     obtain ⟨ps,hps,hrp⟩:=slB_ok (w0:=w0) hH hsl2 r2
     have hlb2:=bA_inj hps
     subst hlb2
     rw [List.length_map] at hln hln2
     intro w fr hst
     refine Calls.mono (hs w0 h v1 v2 bs ps hrd hrp (by omega) (by omega) w fr hst) ?_
     rintro e w' ⟨v,_,rfl,⟨h2,ho,rfl⟩,hst'⟩
     have hne:bs++(be8 ps.length++ps)≠[]:=by
      intro e
      have:=congrArg List.length e
      rw [List.length_append,List.length_append,wI] at this
      simp at this
     have hm:(be8 ((ps.length:Nat):Int)).map (·.val)=e8L m:=by
      have h1:be8A ps.length=(be8 ((ps.length:Nat):Int)).map bA:=be8A_eq (by omega)
      have:=bA_inj (l:=e8L ps.length) h1
      rw [← this,hln2]
     have hX:BW (catB (catB B n (E8 m)) (Nat.add n 8) C) ((bs++(be8 ps.length++ps)).map (·.val)):=by
      rw [← List.append_assoc,List.map_append,List.map_append,hm]
      have h1:=hB.cat (E8_BW m)
      have h2:=h1.cat hC
      have e1:(List.map (fun x:Bt=>x.val) bs++e8L m).length=Nat.add n 8:=by rw [List.length_append,List.length_map,hln]; rfl
      rw [e1] at h2
      rw [List.length_map,hln] at h2
      exact h2
     obtain ⟨V',q1,q2,q3⟩:=freshP_at (n:=Nat.add (Nat.add n 8) m) hH hne ho ⟨w0,w',fr,hst'⟩ hX (by rw [List.length_append,List.length_append,wI,hln,hln2]; show n+8+m=n+(8+m); omega)
     exact ⟨v,_,rfl,⟨V',q1,q2,q3⟩,hst'⟩
    ·cases hF
   ·cases hF
  ·cases hF
 ·cases hF
end
end Ab
end Sl
end Go.Proofs.YtnkiahopaaibhaaGreat
namespace Go.Proofs.YtnkiahopaaibhaaGreat
open Go Go.RowKit
namespace Sl
theorem St.keep {w0 w w':World} {L:Hp} (h:St w0 w L) (hb:Below w.heap.size w w'):St w0 w' L :=
 ⟨⟨hb.os.trans h.below.os,hb.tape.trans h.below.tape,hb.output.trans h.below.output,Nat.le_trans h.below.size hb.size,fun k hk=>(hb.block k (Nat.lt_of_lt_of_le hk h.below.size)).trans (h.below.block k hk)⟩,
 h.sat.mono fun k _ hk=>hb.block k hk⟩
theorem St.news {w0 w w':World} {L:Hp} (h:St w0 w L) (hb:Below w.heap.size w w') {g:Nat} {o:Obj} (hg:w.heap.size≤g) (ho:w'.heap[g]?=some o):St w0 w' (pt g o+L):=by
 have h2:=h.keep hb
 refine ⟨h2.below,?_⟩
 have h3:=h2.sat
 have h1:=h.sat
 have hB:=h.below.size
 clear h2 h
 revert h1 h3
 induction L using Hp.ind
 rintro ⟨h3,h4⟩ ⟨h1,h2⟩
 refine ⟨?_,fun p hp=>?_⟩
 ·simp only [List.cons_append,List.nil_append,List.map_cons,List.nodup_cons]
  refine ⟨fun hm=>?_,h1⟩
  obtain ⟨p,hp,e⟩:=List.mem_map.1 hm
  have:=(Array.getElem?_eq_some_iff.1 (h2 p hp).2).1
  omega
 ·simp only [List.cons_append,List.nil_append,List.mem_cons] at hp
  rcases hp with rfl|hp
  ·exact ⟨by show _≤g; omega,ho⟩
  ·exact h4 p hp
namespace Ab
noncomputable section
def notInN (u:Nat):List Nat→Bool
 | []=>true
 | x::l=>and (not (Nat.beq x u)) (notInN u l)
def insN (u:Nat):List Nat→List Nat
 | []=>[u]
 | x::l=>bif Nat.ble u x then u::x::l else x::insN u l
def keysS (clock:Nat):List (AV × AV × Nat)→Option (List Nat × List Nat)
 | []=>some ([],[])
 | (.i .i64 u,_,n)::l=>(match keysS clock l with
  | none=>none
  | some (ks,ns)=>bif and (and (Nat.blt u 9223372036854775808) (Nat.blt n clock)) (and (notInN u ks) (notInN n ns)) then some (insN u ks,n::ns) else none)
 | _=>none
theorem notInN_ok {u:Nat}:∀ {l:List Nat},notInN u l=true→u∉l
 | [],_=>by simp
 | x::l,h=>by
  simp only [notInN,Bool.and_eq_true,Bool.not_eq_true'] at h
  intro hm
  rcases List.mem_cons.1 hm with rfl|hm
  ·rw [Nat.beq_refl] at h; cases h.1
  ·exact notInN_ok h.2 hm
theorem insN_perm (u:Nat):∀ l:List Nat,(insN u l).Perm (u::l)
 | []=>.refl _
 | x::l=>by
  simp only [insN,cond_eq_ite]
  split
  ·exact .refl _
  ·exact ((insN_perm u l).cons x).trans (.swap _ _ _)
theorem insN_sorted {u:Nat}:∀ {l:List Nat},l.Pairwise (·≤·)→(insN u l).Pairwise (·≤·)
 | [],_=>List.pairwise_singleton _ _
 | x::l,h=>by
  obtain ⟨h1,h2⟩:=List.pairwise_cons.1 h
  simp only [insN,cond_eq_ite]
  split
  ·rename_i hle
   have hle:u≤x:=Nat.le_of_ble_eq_true hle
   exact List.pairwise_cons.2 ⟨fun y hy=>by rcases List.mem_cons.1 hy with rfl|hy; exact hle; exact Nat.le_trans hle (h1 y hy),h⟩
  ·rename_i hle
   have hle:x≤u:=by
    rcases Nat.le_total x u with h|h
    ·exact h
    ·exact absurd (Nat.ble_eq_true_of_le h) hle
   refine List.pairwise_cons.2 ⟨fun y hy=>?_,insN_sorted h2⟩
   rcases List.mem_cons.1 ((insN_perm u l).mem_iff.1 hy) with rfl|hy
   ·exact hle
   ·exact h1 y hy
def RU (v:Value):Option (DataW Unit × List MemPlace):=some (.nil,[])
theorem i64_small {u:Nat} (h:u<9223372036854775808):IntKind.i64.wrap (u:Int)=(u:Int):=kW (k:=.i64) (by simpa only [hfK] using h)
theorem keysS_ok {P:Program} {ti:TypeId} (ht:P.underlying ti=some (.int .i64)) {V:Val} {clock:Nat}:∀ {l:List (AV × AV × Nat)} {es:List MapEntry} {ks ns:List Nat},keysS clock l=some (ks,ns)→RM V l es →
  ks.Pairwise (·≤·)∧(∀ u∈ks,u<9223372036854775808)∧ns=es.map (·.born)∧(∀ x∈es,x.born<clock)∧ns.Nodup∧ks.Nodup∧ks.Perm (es.map fun x=>(match x.key with|.int _ a=>a.toNat|_=>0))∧(∀ x∈es,∃ u:Nat,u<9223372036854775808∧x.key=.int .i64 (u:Int))
 | [],es,ks,ns,h,hr=>by
  have:es=[]:=hr
  subst this
  simp only [keysS,Option.some.injEq,Prod.mk.injEq] at h
  obtain ⟨rfl,rfl⟩:=h
  simp
 | (k,v,n)::l,es,ks,ns,h,hr=>by
  obtain ⟨key,val,es',rfl,h1,h2,h3⟩:=hr
  unfold keysS at h
  split at h
  ·cases ‹_=[]›
  ·rename_i u v' n' l' heq
   simp only [List.cons.injEq,Prod.mk.injEq] at heq
   obtain ⟨⟨rfl,rfl,rfl⟩,rfl⟩:=heq
   split at h
   ·cases h
   ·rename_i ks' ns' hk
    rw [cond_eq_ite] at h
    split at h
    ·rename_i hc
     simp only [Bool.and_eq_true,kU,decide_eq_true_eq] at hc
     obtain ⟨⟨c1,c2⟩,c3,c4⟩:=hc
     simp only [Option.some.injEq,Prod.mk.injEq] at h
     obtain ⟨rfl,rfl⟩:=h
     obtain ⟨g1,g2,rfl,g4,g5,g6,g7,g8⟩:=keysS_ok ht hk h3
     obtain ⟨_,rfl⟩:=h1.int
     rw [i64_small c1]
     have hp:=insN_perm u ks'
     refine ⟨insN_sorted g1,fun x hx=>?_,rfl,fun x hx=>?_,List.nodup_cons.2 ⟨notInN_ok c4,g5⟩,hp.nodup_iff.2 (List.nodup_cons.2 ⟨notInN_ok c3,g6⟩),?_,fun x hx=>?_⟩
     ·rcases List.mem_cons.1 (hp.mem_iff.1 hx) with rfl|hx
      ·exact c1
      ·exact g2 x hx
     ·rcases List.mem_cons.1 hx with rfl|hx
      ·exact c2
      ·exact g4 x hx
     ·rw [List.map_cons]
      exact hp.trans (by simpa using g7)
     ·rcases List.mem_cons.1 hx with rfl|hx
      ·exact ⟨u,c1,rfl⟩
      ·exact g8 x hx
    ·cases h
  ·cases h
theorem insert_perm {H:Type} (x:Lit × DataW H):∀ l,(DataW.insert x l).Perm (x::l)
 | []=>.refl _
 | y::l=>by
  simp only [DataW.insert]
  split
  ·exact .refl _
  ·exact ((insert_perm x l).cons y).trans (.swap _ _ _)
theorem fold_perm {H:Type}:∀ l:List (Lit × DataW H),(l.foldr DataW.insert []).Perm l
 | []=>.refl _
 | x::l=>(insert_perm x _).trans ((fold_perm l).cons x)
theorem owns_of {P:Program} {ti:TypeId} (ht:P.underlying ti=some (.int .i64)) {V:Val} {clock:Nat} {l:List (AV × AV × Nat)} {es:List MapEntry} {ks ns:List Nat} (hk:keysS clock l=some (ks,ns)) (hr:RM V l es) (hl:es.length≤maxLen) {w:World} {b:Nat} (hb:w.heap[b]?=some (.map es.toArray clock)) :
  ∃ D0:DataW Unit,w.ownsMap P ti RU b es.length D0∧Maps.size D0=es.length∧(Go.intKeys D0).Perm (ks.map fun (u:Nat)=>(u:Int)):=by
 obtain ⟨g1,g2,rfl,g4,g5,g6,g7,g8⟩:=keysS_ok ht hk hr
 have hrd:∀ x∈es,∃ u:Nat,u<9223372036854775808∧x.key=.int .i64 (u:Int)∧WideElems.rd P ti RU x=some (.int .i64 (u:Int),.nil):=fun x hx=>by
  obtain ⟨u,hu,hx⟩:=g8 x hx
  refine ⟨u,hu,hx,?_⟩
  have hw:(Lit.int .i64 (u:Int)).wf=true:=by
   simp only [Lit.wf,Bool.and_eq_true,decide_eq_true_eq]
   exact ⟨by show (-9223372036854775808:Int)≤_; omega,by show _≤(9223372036854775807:Int); omega⟩
  unfold WideElems.rd RU
  rw [hx,Maps.keyOf_int_mk ht hw]
  rfl
 refine ⟨_,⟨es.toArray,clock,hb,⟨by simpa using hl,⟨by simpa using g4,by simpa using g5,?_⟩,fun x hx=>?_⟩,by simp,rfl⟩,?_,?_⟩
 ·simp only
  have:∀ (es:List MapEntry),(∀ x∈es,∃ u:Nat,u<9223372036854775808∧x.key=.int .i64 (u:Int))→(es.map fun x=>(match x.key with|.int _ a=>a.toNat|_=>0)).Nodup→(es.map (·.key)).Nodup:=by
   intro es h hn
   rw [List.Nodup,List.pairwise_map] at hn ⊢
   refine hn.imp_of_mem fun {a b} ha hb' hne e=>hne ?_
   rw [e]
  exact this es g8 (g7.nodup_iff.1 g6)
 ·obtain ⟨u,_,_,h⟩:=hrd x (by simpa using hx)
  exact ⟨_,h⟩
 ·rw [Maps.size_eq,(fold_perm _).length_eq]; simp
 ·show ((List.foldr DataW.insert [] (es.toArray.toList.map (WideElems.rg P ti RU))).map fun p=>Go.intOf p.1).Perm _
  refine ((fold_perm _).map _).trans ?_
  rw [List.map_map]
  refine List.Perm.trans (List.Perm.of_eq ?_) (g7.symm.map fun (u:Nat)=>(u:Int))
  rw [List.map_map]
  refine List.map_congr_left fun x hx=>?_
  obtain ⟨u,hu,hx,h⟩:=hrd x (by simpa using hx)
  simp only [Function.comp,WideElems.rg,h,hx]
  simp [Go.intOf]
def F_sorted (kK ti:Nat):jJ:=fun vs H nx=>match vs with
 | [.f k [] [.p id 0]]=>bif Nat.beq k kK then (match H.get id with
  | none=>none
  | some o=>match cellAt o 0 with
   | some (.m mid)=>(match H.get mid with
    | some (.mp es clock)=>bif Nat.ble es.length 1000000 then (match keysS clock es with
     | none=>none
     | some ([],_)=>some (.ns,H,nx)
     | some (k::ks,_)=>some (.sl nx 0 (Nat.succ ks.length) 0 false,H.put (.c ti (Nat.succ ks.length) false (cellsOf (Nat.succ ks.length) ((k::ks).map (.i .i64)))) nx,Nat.succ nx)) else none
    | _=>none)
   | some .nm=>some (.ns,H,nx)
   | _=>none) else none
 | _=>none
def F_or (F G:jJ):jJ:=fun vs H nx=>match F vs H nx with
 | some r=>some r
 | none=>G vs H nx
theorem vR {P:Program} {k:Nat} {F G:jJ} (h1:jK P k F) (h2:jK P k G):jK P k (F_or F G):=by
 refine ⟨h1.1,fun {w0 V vs us H nx h r} hl hH hF=>?_⟩
 unfold F_or at hF
 split at hF
 ·rename_i r' hr
  simp only [Option.some.injEq] at hF; subst hF
  exact h1.2 hl hH hr
 ·exact h2.2 hl hH hF
theorem sorted_unique {ks:List Nat} (h:ks.Pairwise (·≤·)) {ss:List Int} (hp:ss.Perm (ks.map fun (u:Nat)=>(u:Int))):ss.mergeSort (fun x y=>decide (x≤y))=ks.map fun (u:Nat)=>(u:Int):=by
 have h1:(ss.mergeSort (fun x y=>decide (x≤y))).Pairwise (fun x y=>decide (x≤y)=true):=List.pairwise_mergeSort (by simp only [decide_eq_true_eq]; intro a b c; omega) (by simp only [Bool.or_eq_true,decide_eq_true_eq]; intro a b; omega) ss
 have h2:(ks.map fun (u:Nat)=>(u:Int)).Pairwise (fun x y=>decide (x≤y)=true):=by
  rw [List.pairwise_map]; exact h.imp fun h=>by simpa using h
 exact ((List.mergeSort_perm ss _).trans hp).eq_of_pairwise (fun a b _ _ h1 h2=>by simp at h1 h2; omega) h1 h2
theorem sorted_sum {P:Program} {k kK ti:Nat} [hf:Fun P k] (ht:P.underlying ti=some (.int .i64)) (hc1:P.cellsOf ti=1)
  (hc:∀ (Bm b nn:Nat) (D0:DataW Unit) (w:World),Bm<w.heap.size→w.cell? ⟨Bm,0,none⟩=some (.map (some b))→w.ownsMap P ti RU b nn D0→Maps.size D0≤maxLen→Maps.size D0*8≤140737488355328 →
   Calls P k #[.func (.func kK) #[] #[.pointer (some ⟨Bm,0,none⟩)]] w fun e w'=>∃ (v:Value) (ss:List Int),e=.returned v∧ss.Perm (Go.intKeys D0)∧w'.ownsRow w.heap.size ti 1 v ss.length ((ss.mergeSort (fun x y=>decide (x≤y))).map (Value.int .i64))∧(v=.slice none 0 0↔ss=[])∧Below w.heap.size w w')
  (hn:∀ (Bm:Nat) (w:World),Bm<w.heap.size→w.cell? ⟨Bm,0,none⟩=some (.map none)→Calls P k #[.func (.func kK) #[] #[.pointer (some ⟨Bm,0,none⟩)]] w fun e w'=>e=.returned (.slice none 0 0)∧Below w.heap.size w w'):jK P k (F_sorted kK ti):=by
 refine ⟨⟨hf⟩,fun {w0 V vs us H nx h r} hl hH hF=>?_⟩
 unfold F_sorted at hF
 split at hF
 ·rename_i k' id
  rw [cond_eq_ite] at hF
  split at hF
  ·rename_i hk
   have hk:k'=kK:=by simpa using hk
   subst hk
   obtain ⟨u,us',rfl,r1,hl'⟩:=RL.cons.1 hl
   obtain rfl:=RL.nil.1 hl'
   unfold R at r1
   obtain ⟨fs,cs,r2,r3,rfl⟩:=r1
   obtain rfl:=RL.nil.1 r2
   obtain ⟨u2,us2,rfl,r4,r5⟩:=RL.cons.1 r3
   obtain rfl:=RL.nil.1 r5
   obtain ⟨Bm,c,hV,rfl⟩:=R.mkNil r4
   split at hF
   ·cases hF
   ·rename_i o ho
    obtain ⟨b',C',ob,Rr,hV',hh,hO⟩:=hH.has id _ ho
    rw [hV] at hV'
    simp only [Option.some.injEq,Prod.mk.injEq] at hV'
    obtain ⟨rfl,rfl⟩:=hV'
    have hcell:∀ a,cellAt o 0=some a→∃ x,R V a x∧∀ w fr,St w0 w (h+fr)→Bm<w.heap.size∧w.cell? ⟨Bm,0,none⟩=some x:=by
     intro a ha
     cases o with
     | c e n kn s =>
      obtain ⟨cc,rfl,hO'⟩:=ro_cells hO
      obtain ⟨x,hx,hR⟩:=ro_get hO' ha
      refine ⟨x,hR,fun w fr hst=>?_⟩
      have hp:=(hst.left.sat:Sat _ w h)
      rw [hh] at hp
      have hp:=hp.left.pt.2
      refine ⟨(Array.getElem?_eq_some_iff.1 hp).1,?_⟩
      simp only [World.cell?,hp]
      simpa using hx
     | mp _ _=>cases ha
     | si _ _ _=>cases ha
    have hnil:cellAt o 0=some .nm→Spec P w0 k [.func (.func k') #[] #[.pointer (some ⟨Bm,0,none⟩)]] h fun u h'=>∃ V',V≤V'∧R V' .ns u∧RH P V' H nx h':=fun ha=>by
     obtain ⟨x,hx,hcl⟩:=hcell _ ha
     unfold R at hx; subst hx
     intro w fr hst
     obtain ⟨g1,g2⟩:=hcl w fr hst
     refine Calls.mono (hn Bm w g1 g2) ?_
     rintro e w' ⟨rfl,hb⟩
     exact ⟨_,h,rfl,⟨V,Val.refl V,by unfold R; rfl,hH⟩,hst.keep hb⟩
    split at hF
    ·rename_i mid hm
     obtain ⟨x,hx,hcl⟩:=hcell _ hm
     unfold R at hx
     obtain ⟨b,cm,hVm,rfl⟩:=hx
     split at hF
     ·rename_i es clock hmp
      rw [cond_eq_ite] at hF
      split at hF
      ·rename_i hle
       have hle:es.length≤1000000:=Nat.le_of_ble_eq_true hle
       obtain ⟨b',C',ob2,Rr2,hV',hh2,es',rfl,hM⟩:=hH.has mid _ hmp
       rw [hVm] at hV'
       simp only [Option.some.injEq,Prod.mk.injEq] at hV'
       obtain ⟨rfl,rfl⟩:=hV'
       have hlen:es'.length=es.length:=by
        have:∀ (l:List (AV × AV × Nat)) (es:List MapEntry),RM V l es→es.length=l.length:=by
         intro l
         induction l with
         | nil=>intro es h; have:es=[]:=h; subst this; rfl
         | cons p l ih =>
          obtain ⟨k,v,n⟩:=p
          intro es h
          obtain ⟨_,_,es2,rfl,_,_,h3⟩:=h
          simp [ih es2 h3]
        exact this _ _ hM
       have key:∀ ks ns,keysS clock es=some (ks,ns)→∀ w fr,St w0 w (h+fr)→Calls P k #[.func (.func k') #[] #[.pointer (some ⟨Bm,0,none⟩)]] w fun e w'=>∃ v:Value,e=.returned v∧w'.ownsRow w.heap.size ti 1 v ks.length ((ks.map fun (u:Nat)=>(u:Int)).map (Value.int .i64))∧(v=.slice none 0 0↔ks=[])∧Below w.heap.size w w':=by
        intro ks ns hks w fr hst
        obtain ⟨g1,g2⟩:=hcl w fr hst
        have hp:w.heap[b]?=some (.map es'.toArray clock):=by
         have hp:=(hst.left.sat:Sat _ w h)
         rw [hh2] at hp
         exact hp.left.pt.2
        obtain ⟨D0,d1,d2,d3⟩:=owns_of ht hks hM (by rw [hlen]; exact Nat.le_trans hle (by decide)) hp
        refine Calls.mono (hc Bm b _ D0 w g1 g2 d1 (by rw [d2,hlen]; exact Nat.le_trans hle (by decide)) (by rw [d2,hlen]; omega)) ?_
        rintro e w' ⟨v,ss,rfl,hS,hrow,hnil,hb⟩
        obtain ⟨s1,_⟩:=keysS_ok ht hks hM
        have hs:=sorted_unique s1 (hS.trans d3)
        have hl2:ss.length=ks.length:=by rw [(hS.trans d3).length_eq]; simp
        rw [hs,hl2] at hrow
        exact ⟨v,rfl,hrow,hnil.trans ⟨fun e=>by rw [e] at hl2; exact List.eq_nil_of_length_eq_zero hl2.symm,fun e=>by rw [e] at hl2; exact List.eq_nil_of_length_eq_zero hl2⟩,hb⟩
       split at hF
       ·cases hF
       ·rename_i ns hks
        simp only [Option.some.injEq] at hF; subst hF
        intro w fr hst
        refine Calls.mono (key _ _ hks w fr hst) ?_
        rintro e w' ⟨v,rfl,_,hv,hb⟩
        obtain rfl:=hv.2 rfl
        exact ⟨_,h,rfl,⟨V,Val.refl V,by unfold R; rfl,hH⟩,hst.keep hb⟩
       ·rename_i u ks ns hks
        simp only [Option.some.injEq] at hF; subst hF
        obtain ⟨_,s2,_⟩:=keysS_ok ht hks hM
        intro w fr hst
        refine Calls.mono (key _ _ hks w fr hst) ?_
        rintro e w' ⟨v,rfl,hrow,hv,hb⟩
        rcases hrow.2 with ⟨_,h0⟩|⟨g,cap,cur,rfl,hg,hgb,q1,q2,q3,q4⟩
        ·simp at h0
        have hst':=hst.news hb hg hgb
        have hcur:cur=(((u::ks).map fun (u:Nat)=>Value.int .i64 (u:Int))++cur.toList.drop (u::ks).length).toArray:=by
         apply Array.ext'
         have:=(List.take_append_drop ((u::ks).length*1) cur.toList).symm
         rw [q4,Nat.mul_one,List.map_map] at this
         exact this
        generalize cur.toList.drop (u::ks).length=ws at hcur
        subst hcur
        have hRL:RL V ((u::ks).map (.i .i64)) ((u::ks).map fun (u:Nat)=>Value.int .i64 (u:Int)):=by
         have:∀ l:List Nat,(∀ u∈l,u<9223372036854775808)→RL V (l.map (.i .i64)) (l.map fun (u:Nat)=>Value.int .i64 (u:Int)):=by
          intro l
          induction l with
          | nil=>intro _; exact RL.nil.2 O
          | cons x l ih =>
           intro h
           refine RL.mk ?_ (ih fun u hu=>h u (by simp [hu]))
           have hx:=h x (by simp)
           exact R.mkInt' (k:=.i64) (u:=x) (by show x<18446744073709551616; omega) (i64_small hx)
         exact this _ s2
        have hone:yW ((u::ks).map fun (u:Nat)=>Value.int .i64 (u:Int)):=fun x hx=>by obtain ⟨_,_,rfl⟩:=List.mem_map.1 hx; rfl
        have hle2:V≤V.set nx g cap:=Val.le_set (hH.fresh nx (Nat.le_refl _))
        have hO2:RO P (V.set nx g cap) cap (.c ti (Nat.succ ks.length) false (cellsOf (Nat.succ ks.length) ((u::ks).map (.i .i64)))) (.cells (((u::ks).map fun (u:Nat)=>Value.int .i64 (u:Int))++ws).toArray ti (0,0)) :=
         RO.freshN (hRL.mono hle2 _) hone (by simp) (fun h=>by cases h) (fun _=>by rw [hc1,← q3]; simp; omega)
        obtain ⟨k1,k2⟩:=hH.new (b:=g) (C:=cap) ⟨w0,w',fr,by rw [← yH] at hst' ⊢; exact hst'⟩ hO2
        refine ⟨_,_,rfl,⟨V.set nx g cap,k1,?_,k2⟩,by rw [← yH] at hst'; exact hst'⟩
        unfold R
        exact ⟨g,cap,Val.set_self _ _ _ _,by simpa using q1,by simp⟩
      ·cases hF
     ·cases hF
    ·rename_i hm
     simp only [Option.some.injEq] at hF; subst hF
     exact hnil hm
    ·cases hF
  ·cases hF
 ·cases hF
end
end Ab
end Sl
end Go.Proofs.YtnkiahopaaibhaaGreat
namespace Go.Proofs
open Go.Shelf
def Tryz.keysR_ren :Go.Shelf.Ren:=⟨fun|7=>138|10=>265|n=>n,fun|23=>105|26=>3|3=>110|28=>167|0=>0|27=>166|33=>198|4=>4|n=>n,fun|n=>n⟩
theorem Tryz.keysR :Go.Proofs.SlLaysZI.n7 Tryz.prog Tryz.keysR_ren:={
 mixed:=by kernel_rfl
 f7:=⟨Tryz.f138.name,by decide,Tryz.func138.trans (congrArg some (by kernel_rfl))⟩
 f10:=⟨Tryz.f265.name,by decide,Tryz.func265.trans (congrArg some (by kernel_rfl))⟩
 t0:=Tryz.underlying0
 a0:=Tryz.isAgg0
 z0:=Tryz.sizeOf0
 v0:=Tryz.zeroValue0
 t4:=Tryz.underlying4
 a4:=Tryz.isAgg4
 z4:=Tryz.sizeOf4
 v4:=Tryz.zeroValue4
 t23:=Tryz.underlying105
 a23:=Tryz.isAgg105
 z23:=Tryz.sizeOf105
 v23:=Tryz.zeroValue105
 t26:=Tryz.underlying3
 a26:=Tryz.isAgg3
 z26:=Tryz.sizeOf3
 v26:=Tryz.zeroValue3
 t27:=Tryz.underlying166
 a27:=Tryz.isAgg166
 z27:=Tryz.sizeOf166
 v27:=Tryz.zeroValue166
 t28:=Tryz.underlying167
 a28:=Tryz.isAgg167
 z28:=Tryz.sizeOf167
 v28:=Tryz.zeroValue167
 t33:=Tryz.underlying198
 a33:=Tryz.isAgg198
 z33:=Tryz.sizeOf198
 v33:=Tryz.zeroValue198 }
def Tryz.keysA_ren :Go.Shelf.Ren:=⟨fun|7=>63|10=>145|n=>n,fun|23=>106|26=>3|3=>116|28=>167|0=>0|27=>166|33=>198|4=>4|n=>n,fun|n=>n⟩
theorem Tryz.keysA :Go.Proofs.SlLaysZI.n7 Tryz.prog Tryz.keysA_ren:={
 mixed:=by kernel_rfl
 f7:=⟨Tryz.f63.name,by decide,Tryz.func63.trans (congrArg some (by kernel_rfl))⟩
 f10:=⟨Tryz.f145.name,by decide,Tryz.func145.trans (congrArg some (by kernel_rfl))⟩
 t0:=Tryz.underlying0
 a0:=Tryz.isAgg0
 z0:=Tryz.sizeOf0
 v0:=Tryz.zeroValue0
 t4:=Tryz.underlying4
 a4:=Tryz.isAgg4
 z4:=Tryz.sizeOf4
 v4:=Tryz.zeroValue4
 t23:=Tryz.underlying106
 a23:=Tryz.isAgg106
 z23:=Tryz.sizeOf106
 v23:=Tryz.zeroValue106
 t26:=Tryz.underlying3
 a26:=Tryz.isAgg3
 z26:=Tryz.sizeOf3
 v26:=Tryz.zeroValue3
 t27:=Tryz.underlying166
 a27:=Tryz.isAgg166
 z27:=Tryz.sizeOf166
 v27:=Tryz.zeroValue166
 t28:=Tryz.underlying167
 a28:=Tryz.isAgg167
 z28:=Tryz.sizeOf167
 v28:=Tryz.zeroValue167
 t33:=Tryz.underlying198
 a33:=Tryz.isAgg198
 z33:=Tryz.sizeOf198
 v33:=Tryz.zeroValue198 }
def Tryz.keysB_ren :Go.Shelf.Ren:=⟨fun|7=>93|10=>203|n=>n,fun|23=>91|26=>3|3=>31|28=>167|0=>0|27=>166|33=>198|4=>4|n=>n,fun|n=>n⟩
theorem Tryz.keysB :Go.Proofs.SlLaysZI.n7 Tryz.prog Tryz.keysB_ren:={
 mixed:=by kernel_rfl
 f7:=⟨Tryz.f93.name,by decide,Tryz.func93.trans (congrArg some (by kernel_rfl))⟩
 f10:=⟨Tryz.f203.name,by decide,Tryz.func203.trans (congrArg some (by kernel_rfl))⟩
 t0:=Tryz.underlying0
 a0:=Tryz.isAgg0
 z0:=Tryz.sizeOf0
 v0:=Tryz.zeroValue0
 t4:=Tryz.underlying4
 a4:=Tryz.isAgg4
 z4:=Tryz.sizeOf4
 v4:=Tryz.zeroValue4
 t23:=Tryz.underlying91
 a23:=Tryz.isAgg91
 z23:=Tryz.sizeOf91
 v23:=Tryz.zeroValue91
 t26:=Tryz.underlying3
 a26:=Tryz.isAgg3
 z26:=Tryz.sizeOf3
 v26:=Tryz.zeroValue3
 t27:=Tryz.underlying166
 a27:=Tryz.isAgg166
 z27:=Tryz.sizeOf166
 v27:=Tryz.zeroValue166
 t28:=Tryz.underlying167
 a28:=Tryz.isAgg167
 z28:=Tryz.sizeOf167
 v28:=Tryz.zeroValue167
 t33:=Tryz.underlying198
 a33:=Tryz.isAgg198
 z33:=Tryz.sizeOf198
 v33:=Tryz.zeroValue198 }
def Tryz.sortedZ_ren :Go.Shelf.Ren:=⟨fun|6=>62|8=>143|9=>144|11=>270|13=>272|12=>271|23=>352|24=>353|14=>343|15=>344|16=>345|17=>346|18=>347|19=>348|20=>349|21=>350|22=>351|25=>385|26=>386|27=>387|28=>388|29=>389|30=>303|31=>410|n=>n,fun|26=>3|28=>167|24=>70|0=>0|3=>3|37=>200|48=>271|50=>205|4=>4|40=>459|39=>458|45=>137|5=>5|9=>9|51=>494|55=>100|57=>513|58=>224|33=>198|n=>n,fun|n=>n⟩
theorem Tryz.sortedZ :Go.Proofs.SlLaysZI.n6 Tryz.prog Tryz.sortedZ_ren:={
 mixed:=by kernel_rfl
 f6:=⟨Tryz.f62.name,by decide,Tryz.func62.trans (congrArg some (by kernel_rfl))⟩
 f8:=⟨Tryz.f143.name,by decide,Tryz.func143.trans (congrArg some (by kernel_rfl))⟩
 f11:=⟨Tryz.f270.name,by decide,Tryz.func270.trans (congrArg some (by kernel_rfl))⟩
 t0:=Tryz.underlying0
 a0:=Tryz.isAgg0
 z0:=Tryz.sizeOf0
 v0:=Tryz.zeroValue0
 t24:=Tryz.underlying70
 a24:=Tryz.isAgg70
 z24:=Tryz.sizeOf70
 v24:=Tryz.zeroValue70
 t26:=Tryz.underlying3
 a26:=Tryz.isAgg3
 z26:=Tryz.sizeOf3
 v26:=Tryz.zeroValue3
 t28:=Tryz.underlying167
 a28:=Tryz.isAgg167
 z28:=Tryz.sizeOf167
 v28:=Tryz.zeroValue167
 i26:=by kernel_rfl }
def Tryz.sortZ_ren :Go.Shelf.Ren:=⟨fun|5=>144|8=>272|7=>271|19=>352|20=>353|10=>343|11=>344|12=>345|13=>346|14=>347|15=>348|16=>349|17=>350|18=>351|30=>385|31=>386|32=>387|33=>388|34=>389|35=>303|40=>410|n=>n,fun|23=>70|25=>3|3=>3|32=>200|22=>70|0=>0|44=>271|46=>205|4=>4|36=>459|35=>458|41=>137|5=>5|9=>9|53=>494|57=>100|63=>513|64=>224|n=>n,fun|n=>n⟩
theorem Tryz.sortZ :Go.Proofs.SlLaysM.n5 Tryz.prog Tryz.sortZ_ren:={
 mixed:=by kernel_rfl
 f5:=⟨Tryz.f144.name,by decide,Tryz.func144.trans (congrArg some (by kernel_rfl))⟩
 f7:=⟨Tryz.f271.name,by decide,Tryz.func271.trans (congrArg some (by kernel_rfl))⟩
 f8:=Tryz.func272.trans (congrArg some (by kernel_rfl))
 f10:=⟨Tryz.f343.name,by decide,Tryz.func343.trans (congrArg some (by kernel_rfl))⟩
 f11:=⟨Tryz.f344.name,by decide,Tryz.func344.trans (congrArg some (by kernel_rfl))⟩
 f12:=⟨Tryz.f345.name,by decide,Tryz.func345.trans (congrArg some (by kernel_rfl))⟩
 f13:=⟨Tryz.f346.name,by decide,Tryz.func346.trans (congrArg some (by kernel_rfl))⟩
 f14:=⟨Tryz.f347.name,by decide,Tryz.func347.trans (congrArg some (by kernel_rfl))⟩
 f15:=⟨Tryz.f348.name,by decide,Tryz.func348.trans (congrArg some (by kernel_rfl))⟩
 f16:=⟨Tryz.f349.name,by decide,Tryz.func349.trans (congrArg some (by kernel_rfl))⟩
 f17:=⟨Tryz.f350.name,by decide,Tryz.func350.trans (congrArg some (by kernel_rfl))⟩
 f18:=⟨Tryz.f351.name,by decide,Tryz.func351.trans (congrArg some (by kernel_rfl))⟩
 f19:=Tryz.func352.trans (congrArg some (by kernel_rfl))
 f20:=Tryz.func353.trans (congrArg some (by kernel_rfl))
 f30:=⟨Tryz.f385.name,by decide,Tryz.func385.trans (congrArg some (by kernel_rfl))⟩
 f31:=Tryz.func386.trans (congrArg some (by kernel_rfl))
 f32:=Tryz.func387.trans (congrArg some (by kernel_rfl))
 f33:=⟨Tryz.f388.name,by decide,Tryz.func388.trans (congrArg some (by kernel_rfl))⟩
 f34:=⟨Tryz.f389.name,by decide,Tryz.func389.trans (congrArg some (by kernel_rfl))⟩
 f35:=⟨Tryz.f303.name,by decide,Tryz.func303.trans (congrArg some (by kernel_rfl))⟩
 f40:=⟨Tryz.f410.name,by decide,Tryz.func410.trans (congrArg some (by kernel_rfl))⟩
 t0:=Tryz.underlying0
 a0:=Tryz.isAgg0
 z0:=Tryz.sizeOf0
 v0:=Tryz.zeroValue0
 t3:=Tryz.underlying3
 a3:=Tryz.isAgg3
 z3:=Tryz.sizeOf3
 v3:=Tryz.zeroValue3
 t4:=Tryz.underlying4
 a4:=Tryz.isAgg4
 z4:=Tryz.sizeOf4
 v4:=Tryz.zeroValue4
 t5:=Tryz.underlying5
 a5:=Tryz.isAgg5
 z5:=Tryz.sizeOf5
 v5:=Tryz.zeroValue5
 t9:=Tryz.underlying9
 a9:=Tryz.isAgg9
 z9:=Tryz.sizeOf9
 v9:=Tryz.zeroValue9
 t22:=Tryz.underlying70
 a22:=Tryz.isAgg70
 z22:=Tryz.sizeOf70
 v22:=Tryz.zeroValue70
 t23:=Tryz.underlying70
 a23:=Tryz.isAgg70
 z23:=Tryz.sizeOf70
 v23:=Tryz.zeroValue70
 t25:=Tryz.underlying3
 a25:=Tryz.isAgg3
 z25:=Tryz.sizeOf3
 v25:=Tryz.zeroValue3
 t32:=Tryz.underlying200
 a32:=Tryz.isAgg200
 z32:=Tryz.sizeOf200
 v32:=Tryz.zeroValue200
 t35:=Tryz.underlying458
 a35:=Tryz.isAgg458
 z35:=Tryz.sizeOf458
 v35:=Tryz.zeroValue458
 t36:=Tryz.underlying459
 a36:=Tryz.isAgg459
 z36:=Tryz.sizeOf459
 v36:=Tryz.zeroValue459
 t41:=Tryz.underlying137
 a41:=Tryz.isAgg137
 z41:=Tryz.sizeOf137
 v41:=Tryz.zeroValue137
 t44:=Tryz.underlying271
 a44:=Tryz.isAgg271
 z44:=Tryz.sizeOf271
 v44:=Tryz.zeroValue271
 t46:=Tryz.underlying205
 a46:=Tryz.isAgg205
 z46:=Tryz.sizeOf205
 v46:=Tryz.zeroValue205
 t53:=Tryz.underlying494
 a53:=Tryz.isAgg494
 z53:=Tryz.sizeOf494
 v53:=Tryz.zeroValue494
 t57:=Tryz.underlying100
 a57:=Tryz.isAgg100
 z57:=Tryz.sizeOf100
 v57:=Tryz.zeroValue100
 t63:=Tryz.underlying513
 a63:=Tryz.isAgg513
 z63:=Tryz.sizeOf513
 v63:=Tryz.zeroValue513
 t64:=Tryz.underlying224
 a64:=Tryz.isAgg224
 z64:=Tryz.sizeOf224
 v64:=Tryz.zeroValue224 }
end Go.Proofs
namespace Go.Proofs
open Go.RowKit Go.Maps Go.Sort Go.Shelf
theorem Tryz.sortsZ (m:Nat):AnyZI.SortsIn Tryz.prog Tryz.sortedZ_ren Fence.wide m :=
 ⟨fun blk off cap ss W hH hblk hsz=>callsIn_wide.2 (AnyM.slices_Sort_int Tryz.sortZ blk off cap ss W hH hblk hsz),fun p cap W=>callsIn_wide.2 (AnyM.slices_Sort_int_none Tryz.sortZ p cap W)⟩
namespace YtnkiahopaaibhaaGreat
namespace Sl
set_option maxHeartbeats 2000000
def SortedAt (kK:Nat):Prop:=(∀ (Bm b nn:Nat) (D0:DataW Unit) (w:World),Bm<w.heap.size→w.cell? ⟨Bm,0,none⟩=some (.map (some b))→w.ownsMap Tryz.prog 3 Ab.RU b nn D0→Maps.size D0≤maxLen→Maps.size D0*8≤140737488355328 →
   Calls Tryz.prog 62 #[.func (.func kK) #[] #[.pointer (some ⟨Bm,0,none⟩)]] w fun e w'=>∃ (v:Value) (ss:List Int),e=.returned v∧ss.Perm (intKeys D0)∧w'.ownsRow w.heap.size 3 1 v ss.length ((ss.mergeSort (fun x y=>decide (x≤y))).map (Value.int .i64))∧(v=.slice none 0 0↔ss=[])∧Below w.heap.size w w') ∧
  ∀ (Bm:Nat) (w:World),Bm<w.heap.size→w.cell? ⟨Bm,0,none⟩=some (.map none)→Calls Tryz.prog 62 #[.func (.func kK) #[] #[.pointer (some ⟨Bm,0,none⟩)]] w fun e w'=>e=.returned (.slice none 0 0)∧Below w.heap.size w w'
theorem sortedAt_of (g:Nat) (hg:∀ args w,(callFunc g args).run Tryz.prog w=.ok (.enter g args) w)
  (h1:∀ (Bm b nn:Nat) (D0:DataW Unit) (w:World),Bm<w.heap.size→w.cell? ⟨Bm,0,none⟩=some (.map (some b))→w.ownsMap Tryz.prog 3 Ab.RU b nn D0→SeqGives Fence.wide 3 Tryz.prog g #[.pointer (some ⟨Bm,0,none⟩)] encZ (fun ss=>ss.Perm (intKeys D0)) (Maps.size D0) w)
  (h2:∀ (Bm:Nat) (w:World),Bm<w.heap.size→w.cell? ⟨Bm,0,none⟩=some (.map none)→SeqGives Fence.wide 3 Tryz.prog g #[.pointer (some ⟨Bm,0,none⟩)] encZ (fun ss:List Int=>ss=[]) 0 w):SortedAt g:=by
 refine ⟨fun Bm b nn D0 w hB hm hown hmax hbytes=>?_,fun Bm w hB hm=>?_⟩
 ·refine (callsIn_wide (n:=6)).1 ?_
  have cS:=AnyZI.sorted_in Tryz.sortedZ Fence.wide 6 trivial trivial trivial trivial rfl (by omega) (Tryz.sortsZ _) (enters_of Tryz.func144 (by kernel_rfl) O) g #[.pointer (some ⟨Bm,0,none⟩)] trivial hg _ _ hmax hbytes w (h1 Bm b nn D0 w hB hm hown)
  exact cS
 ·refine (callsIn_wide (n:=6)).1 ?_
  have cS:=AnyZI.sorted_in Tryz.sortedZ Fence.wide 6 trivial trivial trivial trivial rfl (by omega) (Tryz.sortsZ _) (enters_of Tryz.func144 (by kernel_rfl) O) g #[.pointer (some ⟨Bm,0,none⟩)] trivial hg _ 0 (Nat.zero_le _) (by omega) w (h2 Bm w hB hm)
  refine cS.mono ?_
  rintro e w' ⟨v,ss,rfl,rfl,hrow,hnil,hb⟩
  obtain rfl:=hnil.2 rfl
  exact ⟨rfl,hb⟩
theorem sortedR :SortedAt 265 :=
 sortedAt_of _ (enters_of Tryz.func265 (by kernel_rfl) O)
  (fun Bm b nn D0 w hB hm hown=>AnyZI.keys_gives (ρ:=Tryz.keysR_ren) { Tryz.keysR with } Fence.wide _ trivial rfl (by omega) Bm b nn D0 w hB hm hown)
  (fun Bm w hB hm=>AnyZI.keys_gives_nil (ρ:=Tryz.keysR_ren) { Tryz.keysR with } Fence.wide _ trivial rfl Bm w hB hm)
theorem sortedA :SortedAt 145 :=
 sortedAt_of _ (enters_of Tryz.func145 (by kernel_rfl) O)
  (fun Bm b nn D0 w hB hm hown=>AnyZI.keys_gives (ρ:=Tryz.keysA_ren) { Tryz.keysA with } Fence.wide _ trivial rfl (by omega) Bm b nn D0 w hB hm hown)
  (fun Bm w hB hm=>AnyZI.keys_gives_nil (ρ:=Tryz.keysA_ren) { Tryz.keysA with } Fence.wide _ trivial rfl Bm w hB hm)
theorem sortedB :SortedAt 203 :=
 sortedAt_of _ (enters_of Tryz.func203 (by kernel_rfl) O)
  (fun Bm b nn D0 w hB hm hown=>AnyZI.keys_gives (ρ:=Tryz.keysB_ren) { Tryz.keysB with } Fence.wide _ trivial rfl (by omega) Bm b nn D0 w hB hm hown)
  (fun Bm w hB hm=>AnyZI.keys_gives_nil (ρ:=Tryz.keysB_ren) { Tryz.keysB with } Fence.wide _ trivial rfl Bm w hB hm)
namespace Ab
noncomputable section
def F_keys :jJ:=F_or (F_sorted 265 3) (F_or (F_sorted 145 3) (F_sorted 203 3))
theorem keys_sum :jK Tryz.prog 62 F_keys:=by
 have key:∀ kK,SortedAt kK→jK Tryz.prog 62 (F_sorted kK 3):=fun kK h=>sorted_sum Tryz.underlying3 (by kernel_rfl) h.1 h.2
 exact vR (key _ sortedR) (vR (key _ sortedA) (key _ sortedB))
end
end Ab
end Sl
end YtnkiahopaaibhaaGreat
end Go.Proofs
namespace Go.Proofs.YtnkiahopaaibhaaGreat
open Go Go.RowKit
namespace Sl
namespace Ab
abbrev Fo (r:Option Nat):Fence:={ Fence.wide with round:=r }
def uU (r:Option Nat) (P:Program) (n:Nat) (w0:World) (c:Code) (Q:wG) (g:Env) (L:Hp):Prop :=
 ∀ a w,jE n a g→St w0 w L→c.wpIn (Fo r) 0 P (lift n w0 Q) a w
def HoldFL (r:Option Nat) (P:Program) (n:Nat) (w0:World) (ops:Array Oper) (rest:List Oper) (Q:wG) (g:Env) (L:Hp):Prop :=
 ∀ a w,jE n a g→St w0 w L→wpListIn (Fo r) 0 P ops (lift n w0 Q) rest a w
def seqFo (r:Option Nat) (P:Program) (n:Nat) (w0:World) (y:Code) (Q:wG):wG
 | .normal,g,L=>uU r P n w0 y Q g L
 | e,g,L=>Q e g L
section
variable {P:Program} {r:Option Nat} {n:Nat} {w0:World} {Q:wG} {g:Env} {L:Hp}
theorem hold_of_F {c:Code} (h:uU none P n w0 c Q g L):vK P n w0 c Q g L:=fun a w ha hw=>wpIn_wide.1 (h a w ha hw)
theorem F_seq {x y:Code} (h:uU r P n w0 x (seqFo r P n w0 y Q) g L):uU r P n w0 (.seq x y) Q g L:=by
 intro a w ha hw
 refine wpIn_seq (wpIn_mono (h a w ha hw) ?_)
 rintro e a' w' ⟨g',L',hq,ha',hw'⟩
 cases e<;>first|exact hq a' w' ha' hw'|exact ⟨g',L',hq,ha',hw'⟩
theorem F_skip (h:Q .normal g L):uU r P n w0 .skip Q g L:=fun _ _ ha hw=>wpIn_skip ⟨g,L,h,ha,hw⟩
theorem F_label {l:Nat} (h:Q .normal g L):uU r P n w0 (.label l) Q g L:=fun _ _ ha hw=>wpIn_label ⟨g,L,h,ha,hw⟩
theorem F_ret (h:Q .ret g L):uU r P n w0 .ret Q g L:=fun _ _ ha hw=>wpIn_ret ⟨g,L,h,ha,hw⟩
theorem F_exit {id:Nat} (h:Q (.exit id) g L):uU r P n w0 (.exit id) Q g L:=fun _ _ ha hw=>wpIn_exit ⟨g,L,h,ha,hw⟩
theorem F_cond {c:Operand} {x y:Code} {t:Bool} (hc:ev g c=some (.bool t)) (h:uU r P n w0 (if t then x else y) Q g L):uU r P n w0 (.cond c x y) Q g L:=by
 intro a w ha hw
 exact wpIn_cond (ha.ev hc) (h a w ha hw)
theorem F_block {id:Nat} {c:Code} (h:uU r P n w0 c (blockQ id Q) g L):uU r P n w0 (.block id c) Q g L:=by
 intro a w ha hw
 refine wpIn_block (wpIn_mono (h a w ha hw) ?_)
 rintro e a' w' ⟨g',L',hq,ha',hw'⟩
 cases e with
 | exit id' =>
  simp only [blockQ] at hq
  simp only [Exit.inBlock]
  split at hq
  ·rename_i e; rw [if_pos e]; exact ⟨g',L',hq,ha',hw'⟩
  ·rename_i e; rw [if_neg e]; exact ⟨g',L',hq,ha',hw'⟩
 | _=>exact ⟨g',L',hq,ha',hw'⟩
theorem F_env {c:Code} {g':Env} (s:Sub g g') (h:uU r P n w0 c Q g' L):uU r P n w0 c Q g L:=fun a w ha hw=>h a w (ha.sub s) hw
theorem F_region {id:Nat} {ops:Array Oper} (h:HoldFL r P n w0 ops ops.toList Q g L):uU r P n w0 (.region id ops false) Q g L :=
 fun a w ha hw=>wpIn_region_list (h a w ha hw)
variable {ops:Array Oper} {rest:List Oper} {dst:Option Nat} {op:Op} {ty:TypeId} {pos:String} {af:Array Edge} {gd:Option (Nat × Bool)}
theorem FL_nil (h:Q .normal g L):HoldFL r P n w0 ops [] Q g L:=fun _ _ ha hw=>⟨g,L,h,ha,hw⟩
def noDefer :Op→Bool
 | .defer _=>false
 | _=>true
theorem FL_run (hw:yY ops g gd=some true) (hnd:noDefer op=true)
  (h:∀ a w,jE n a g→St w0 w L→Oper.uponIn (Fo r) 0 P ⟨dst,op,ty,pos,af,gd⟩ a (wpListIn (Fo r) 0 P ops (lift n w0 Q) rest) (lift n w0 Q) ((execOp a.eval ⟨dst,op,ty,pos,af,gd⟩).run P w)):HoldFL r P n w0 ops (⟨dst,op,ty,pos,af,gd⟩::rest) Q g L:=by
 intro a w ha hst
 unfold wpListIn
 rw [if_pos (wanted_of (o:=⟨dst,op,ty,pos,af,gd⟩) ha hw)]
 refine ⟨fun _ _=>trivial,?_⟩
 rw [Oper.semAt_eq _ _ _ (fun c e=>by simp only at e; rw [e] at hnd; cases hnd)]
 exact h a w ha hst
theorem FL_skip (hw:yY ops g gd=some false) (hd:dst.all (·<n)=true) (hk:HoldFL r P n w0 ops rest Q (jW g dst undef) L):HoldFL r P n w0 ops (⟨dst,op,ty,pos,af,gd⟩::rest) Q g L:=by
 intro a w ha hst
 unfold wpListIn
 rw [if_neg (by rw [wanted_of (o:=⟨dst,op,ty,pos,af,gd⟩) ha hw]; simp)]
 exact ⟨fun _ _=>trivial,hk _ w (ha.put hd _) hst⟩
theorem FL_eff (hw:yY ops g gd=some true) (hnd:noDefer op=true) (hd:dst.all (·<n)=true) {post:Value→Hp→Prop} (h:EV P w0 L g op post)
  (hk:∀ v L',post v L'→HoldFL r P n w0 ops rest Q (jW g dst v) L'):HoldFL r P n w0 ops (⟨dst,op,ty,pos,af,gd⟩::rest) Q g L :=
 FL_run hw hnd fun a w ha hst=>by
  obtain ⟨v,w',L',hr,hp,hst'⟩:=h ⟨dst,op,ty,pos,af,gd⟩ a w n rfl ha hst
  rcases hr with hr|⟨hr,rfl⟩<;>rw [hr]<;>exact hk _ L' hp _ w' (ha.put hd _) hst'
theorem callsF {k:FuncId} {args:Array Value} {w:World} {R:Ending→World→Prop} (h:Calls P k args w R):CallsIn (Fo r) 0 P k args w R:=by
 cases r with
 | none=>exact callsIn_wide.2 h
 | some l=>exact CallsIn.inRound l (callsIn_wide.2 h)
theorem FL_call (hw:yY ops g gd=some true) (hnd:noDefer op=true) (hd:dst.all (·<n)=true) {k:FuncId} {args:List Value} (h:CV P g op k args) {pre R:Hp} {post:Value→Hp→Prop} (hs:Spec P w0 k args pre post) (hL:L=pre+R)
  (hk:∀ v h,post v h→HoldFL r P n w0 ops rest Q (jW g dst v) (h+R)):HoldFL r P n w0 ops (⟨dst,op,ty,pos,af,gd⟩::rest) Q g L :=
 FL_run hw hnd fun a w ha hst=>by
  rw [h ⟨dst,op,ty,pos,af,gd⟩ a w n O ha]
  subst hL
  refine ⟨fun e=>(by cases e),CallsIn.mono (callsF (hs w R hst)) ?_⟩
  rintro e w' ⟨v,h',rfl,hp,hst'⟩
  exact hk v h' hp _ w' (ha.put hd _) hst'
abbrev uD (rc:Loop):Obj:=.loop rc
def RoundOk (P:Program) (w0:World) (l:Nat) (rc:Loop) (vs:List Value) (L:Hp) (post:Bool→Loop→Hp→Prop):Prop :=
 ∀ w,St w0 w (pt l (uD rc)+L)→RoundIn Fence.wide 0 P l rc.fn ((rc.params.zip vs.toArray).foldl (fun tmps p=>tmps.setIfInBounds p.1 p.2) rc.tmps) rc.assign rc.body w
  fun e w'=>∃ b rc' h,e=.returned (.bool b)∧post b rc' h∧St w0 w' (pt l (uD rc')+h)
def putP :List Nat→List Value→Env→Env
 | p::ps,v::vs,g=>putP ps vs ((p,v)::g)
 | _,_,g=>g
theorem fits_put {g:Env}:∀ (ps:List Nat) (vs:List Value) (g:Env) (tmps:Array Value),jE n { tmps:=tmps,defers:=[] } g→ps.all (·<n)=true →
  jE n { tmps:=(ps.zip vs).foldl (fun t p=>t.setIfInBounds p.1 p.2) tmps,defers:=[] } (putP ps vs g)
 | [],vs,g,tmps,h,_=>h
 | p::ps,[],g,tmps,h,_=>h
 | p::ps,v::vs,g,tmps,h,hp=>by
  simp only [List.all_cons,Bool.and_eq_true] at hp
  exact fits_put (g:=g) ps vs ((p,v)::g) _ (jE.put (a:={ tmps:=tmps,defers:=[] }) h (dst:=some p) (by simpa using hp.1) v) hp.2
theorem zip_fold (ps:Array Nat) (vs:List Value) (tmps:Array Value):(ps.zip vs.toArray).foldl (fun t p=>t.setIfInBounds p.1 p.2) tmps=(ps.toList.zip vs).foldl (fun t p=>t.setIfInBounds p.1 p.2) tmps:=by
 rw [← Array.foldl_toList]
 simp
def roundQ (l:Nat) (rc:Loop) (post:Bool→Loop→Hp→Prop):wG
 | .normal,_,L=>∃ L2,L=pt l (uD { rc with state:=.busy })+L2∧post true { rc with state:=.ready,pending:=none } L2
 | .ret,_,L=>∃ L2,L=pt l (uD { rc with state:=.busy })+L2∧post false { rc with state:=.done,pending:=some .ret } L2
 | .exit id,_,L=>∃ L2,L=pt l (uD { rc with state:=.busy })+L2∧post false { rc with state:=.done,pending:=some (.exit id) } L2
 | _,_,_=>False
theorem st_put {w:World} {b:Nat} {o o':Obj} {R:Hp} (h:St w0 w (pt b o+R)):St w0 (w.putObj b o') (pt b o'+R):=by
 have hb:=h.sat.left.pt.2
 have hlt:b<w.heap.size:=(Array.getElem?_eq_some_iff.1 hb).1
 exact h.set (World.putObj_heap_same hlt) (fun k hk=>World.putObj_heap_other hk) (by simp) O O O
theorem round_ok {l:Nat} {rc:Loop} {vs:List Value} {post:Bool→Loop→Hp→Prop} {g:Env} (hps:rc.params.toList.all (·<n)=true) (hg:jE n { tmps:=rc.tmps,defers:=[] } g) (hrd:rc.state=.ready)
  (h:uU (some l) P n w0 rc.assign (fun e g' L'=>e=.normal∧∃ L1,L'=pt l (uD rc)+L1∧uU (some l) P n w0 rc.body (roundQ l rc post) g' (pt l (uD { rc with state:=.busy })+L1)) (putP rc.params.toList vs g) (pt l (uD rc)+L)) :
  RoundOk P w0 l rc vs L post:=by
 intro w hst
 refine roundIn_of_wpIn trivial ?_
 rw [zip_fold]
 refine wpIn_mono (h _ w (fits_put (g:=g) _ vs g _ hg hps) hst) ?_
 rintro e a' w' ⟨g',L',⟨rfl,L1,rfl,hb⟩,ha',hw'⟩
 have h1:=hw'.sat.left.pt.2
 refine ⟨_,run_beginRound h1 hrd,wpIn_mono (hb a' _ ha' (st_put hw')) ?_⟩
 rintro e a2 w2 ⟨g2,L2,hq,ha2,hw2⟩
 cases e with
 | normal =>
  obtain ⟨L3,rfl,hp⟩:=hq
  have h2:=hw2.sat.left.pt.2
  exact ⟨_,_,run_endRound none h2,_,_,_,rfl,hp,st_put hw2⟩
 | ret =>
  obtain ⟨L3,rfl,hp⟩:=hq
  have h2:=hw2.sat.left.pt.2
  exact ⟨_,_,run_endRound (some .ret) h2,_,_,_,rfl,hp,st_put hw2⟩
 | exit id =>
  obtain ⟨L3,rfl,hp⟩:=hq
  have h2:=hw2.sat.left.pt.2
  exact ⟨_,_,run_endRound (some (.exit id)) h2,_,_,_,rfl,hp,st_put hw2⟩
 | _=>exact hq.elim
theorem FL_yield {f:Operand} {xs:Array Operand} {ts:Array TypeId} {l:Nat} {rc:Loop} {vs:List Value} {R:Hp} {post:Bool→Loop→Hp→Prop} (hw:yY ops g gd=some true) (hd:dst.all (·<n)=true)
  (hf:ev g f=some (.func (.yield l) #[] #[])) (hxs:evs g xs.toList=some vs) (hps:vs.length=rc.params.size) (hL:L=pt l (uD rc)+R) (hr:RoundOk P w0 l rc vs R post)
  (hk:∀ b rc' h,post b rc' h→HoldFL none P n w0 ops rest Q (jW g dst (.bool b)) (pt l (uD rc')+h)) :
  HoldFL none P n w0 ops (⟨dst,.call { callee:=.value f,args:=xs,argTypes:=ts },ty,pos,af,gd⟩::rest) Q g L :=
 FL_run hw O fun a w ha hst=>by
  subst hL
  have h1:=hst.sat.left.pt.2
  have hargs:(xs.map a.eval)=vs.toArray:=by
   have:=ha.evs hxs
   apply Array.ext'; rw [Array.toList_map]; exact this
  have hv:a.eval f=.func (.yield l) #[] #[]:=ha.ev hf
  have e:(execOp a.eval ⟨dst,.call { callee:=.value f,args:=xs,argTypes:=ts },ty,pos,af,gd⟩).run P w=.ok (.round l rc.fn ((rc.params.zip vs.toArray).foldl (fun tmps (t,a)=>tmps.setIfInBounds t a) rc.tmps) rc.assign rc.body) w:=by
   unfold execOp
   simp only [resolve,hv,hargs,Deferred.ofValue,pure_bind,invoke,Array.empty_append]
   exact run_yield h1 (by simpa using hps)
  rw [e]
  refine ⟨fun e=>(by cases e),RoundIn.mono (hr w hst) ?_⟩
  rintro e w' ⟨b,rc',h,rfl,hp,hst'⟩
  exact hk b rc' h hp _ w' (ha.put hd _) hst'
abbrev markD (D:Nat):Deferred:={ target:=.collected D,args:=#[] }
def jumpQ (Q:vA) (ds:List Deferred) (j:Option Code) (g:Env) (L:Hp):Prop:=match j with
 | none=>Q ds .normal g L
 | some .ret=>Q ds .ret g L
 | some (.exit id)=>Q ds (.exit id) g L
 | _=>False
theorem X_range {Q:vA} {ds:List Deferred} {f:Operand} {ps:Array Tmp} {assign body:Code} {k:FuncId} {cap:List Value} [hk:Fun P k] (hf:ev g f=some (.func (.func k) #[] cap.toArray))
  (h:∀ fn tmps D l,jE n { tmps:=tmps,defers:=[] } g→Spec P w0 k (.func (.yield l) #[] #[]::cap) (pt l (uD ⟨.ready,none,fn,tmps,ps,assign,body,D⟩)+L)
   fun _ h'=>∃ st j h1,h'=pt l (uD ⟨st,j,fn,tmps,ps,assign,body,D⟩)+h1∧st≠.busy∧jumpQ Q (markD D::ds) j g (pt D (.deferred (some []))+h1)) :
  vD P n w0 (.rangeFunc f ps assign body) Q ds g L:=by
 intro a w ha hd hst
 refine wpIn_wide (n:=0).1 (wpIn_rangeFunc fun fn _=>?_)
 have e1:=run_enterLoop_outer (P:=P) (w:=w) fn a.tmps ps assign body
 have hst1:St w0 ((w.alloc (.deferred (some []))).alloc (.loop { state:=.ready,pending:=none,fn,tmps:=a.tmps,params:=ps,assign,body,defers:=w.heap.size })) _:=(hst.alloc (.deferred (some []))).alloc _
 rw [World.size_alloc] at hst1
 have hv:a.eval f=.func (.func k) #[] cap.toArray:=(jE.ev (a:=vY a) ha hf)
 have e2:∀ w2:World,(resolve a.eval (rangeCall f (w.heap.size+1)) 0).run P w2=.ok ⟨.fn (.func k) cap.toArray,#[.func (.yield (w.heap.size+1)) #[] #[]]⟩ w2:=fun w2=>by
  simp only [resolve,hv,Deferred.ofValue,Array.empty_append]
  simp [Act.eval,Sem.run_pure]
 refine ⟨_,_,_,_,_,k,_,_,e1,e2 _,fun _ _=>trivial,invoke_fun (k:=k) cap [.func (.yield (w.heap.size+1)) #[] #[]] _,fun e=>(by cases e),callsIn_wide.2 ?_⟩
 have hs:=h fn a.tmps w.heap.size (w.heap.size+1) ⟨ha.size,rfl,ha.get⟩ _ (pt w.heap.size (.deferred (some []))) (by
  rw [yH,jB L]; exact hst1)
 refine Calls.mono hs ?_
 rintro e w' ⟨v,h',rfl,⟨st,j,h1,rfl,hne,hq⟩,hst'⟩
 rw [yH] at hst'
 have hl:=hst'.sat.left.pt.2
 refine ⟨j,_,run_endLoop hl hne,?_⟩
 have hst2:=(st_put (o':=.loop { (⟨st,j,fn,a.tmps,ps,assign,body,w.heap.size⟩:Loop) with state:=.exhausted }) hst').right
 rw [jB] at hst2
 have hfit:jE n (vY { a with defers:=markD w.heap.size::a.defers }) g:=ha
 have fin:∀ ex,Q (markD w.heap.size::ds) ex g (pt w.heap.size (.deferred (some []))+h1)→liftX n w0 Q ex { a with defers:=[markD w.heap.size]++a.defers } (w'.putObj (w.heap.size+1) (.loop { (⟨st,j,fn,a.tmps,ps,assign,body,w.heap.size⟩:Loop) with state:=.exhausted })) :=
  fun ex hx=>⟨g,_,by rw [show ({ a with defers:=[markD w.heap.size]++a.defers }:Act).defers=markD w.heap.size::ds by rw [← hd]; rfl]; exact hx,hfit,hst2⟩
 unfold jumpQ at hq
 split at hq
 ·exact fin _ hq
 ·exact wpIn_ret (fin _ hq)
 ·exact wpIn_exit (fin _ hq)
 ·exact hq.elim
def retM (P:Program) (w0:World) (rs:List ResultVar) (fr:Hp) (post:Value→Hp→Prop):vA
 | ds,.normal,g,L|ds,.ret,g,L=>(ds=[]∧∃ vs h R,ResOk P w0 g L rs vs∧post (oneV vs) h∧L=h+fr+R)∨(∃ D L1,ds=[markD D]∧L=pt D (.deferred (some []))+L1∧∃ vs h R,ResOk P w0 g L1 rs vs∧post (oneV vs) h∧L1=h+fr+R)
 | _,_,_,_=>False
theorem spec_of_holdM {f:FuncId} {fn:Func} {c:Code} {n:Nat} {args:List Value} {rs:List ResultVar} {pre:Hp} {post:Value→Hp→Prop}
  (hf:P.funcs[f]?=some fn) (hb:fn.body=some c) (hn:fn.ntmps=n) (hr:fn.results=rs.toArray) (hle:args.length≤n)
  (h:∀ fr,vD P n w0 c (retM P w0 rs fr post) [] (argE 0 args) (pre+fr)):Spec P w0 f args pre post:=by
 intro w fr hst
 refine callsIn_wide (n:=0).1 (callsIn_of_wp_marks hf hb trivial ?_ rfl)
 refine wpIn_mono (wpIn_wide.2 (h fr { tmps:=args.toArray++Array.replicate (fn.ntmps - args.toArray.size) undef,defers:=[] } w (args_fit hn hle) O hst)) ?_
 have key:∀ (a':Act) (w':World) (g:Env) (L:Hp),retM P w0 rs fr post a'.defers .ret g L→jE n (vY a') g→St w0 w' L→LeavesInM Fence.wide 0 P fn a'.tmps (fun e w'=>∃ v h,e=.returned v∧post v h∧St w0 w' (h+fr)) a'.defers .returning w':=by
  intro a' w' g L hq ha' hw'
  rcases hq with ⟨hd,vs,h',R,h1,h2,rfl⟩|⟨D,L1,hd,rfl,vs,h',R,h1,h2,rfl⟩
  ·rw [hd]
   exact ⟨_,vW ha' hw' fn rs hr h1,_,h',rfl,h2,hw'.left⟩
  ·rw [hd]
   have h3:=hw'.sat.left.pt.2
   refine ⟨by simp,.inl ⟨_,_,rfl,run_takeDeferred h3,?_⟩⟩
   have hst2:=(st_put (o':=.deferred none) hw').right
   exact ⟨_,vW ha' hst2 fn rs hr h1,_,h',rfl,h2,hst2.left⟩
 rintro e a' w' ⟨g,L,hq,ha',hw'⟩
 cases e with
 | normal=>exact key a' w' g L hq ha' hw'
 | ret=>exact key a' w' g L hq ha' hw'
 | _=>exact hq.elim
end
end Ab
namespace Ab
noncomputable section
structure LK where
 id:Nat
 n:Nat
 E:En
 ps:Array Nat
 assign:Code
 body:Code
def putPA :List Nat→List AV→En→En
 | p::ps,v::vs,E=>putPA ps vs (E.put v p)
 | _,_,E=>E
def exC :Ex→Code
 | .normal=>.skip
 | .ret=>.ret
 | .exit k=>.exit k
inductive RI where
 | ok (e:Ex) (s:S) (j:Option Ex)|bad (w:Nat)
def isNilD :List (Nat × List AV × List AV)→Bool
 | []=>true
 | _=>false
def noDeferL :List Oper→Bool
 | []=>true
 | o::l=>and (noDefer o.op) (noDeferL l)
section
variable (TT:Nat→Option TI) (FT:Nat→Option Func) (rec:Tk→Rs)
def runR (n:Nat) (ops:Array Oper):List Oper→S→Rs
 | [],s=>.ok .normal s
 | o::rest,s=>bif uI n o.dst then (match wA ops s.E o.guard with
  | none=>.bad (why 51 o.dst)
  | some false=>runR n ops rest ⟨wH s.E o.dst wC,s.H,s.nx,s.D⟩
  | some true=>match yU TT s.E s.H s.nx o.op with
   | .val (v,H,nx)=>runR n ops rest ⟨wH s.E o.dst v,H,nx,s.D⟩
   | .call k vs=>(match rec (.fn k vs s.H s.nx) with
    | .val v H nx=>runR n ops rest ⟨wH s.E o.dst v,H,nx,s.D⟩
    | .bad w=>.bad w
    | .ok _ _=>.bad 52)
   | _=>.bad (why 53 o.dst)) else .bad 54
def execR :Nat→Nat→Code→S→Rs
 | 0,_,_,_=>.bad 55
 | f+1,n,c,s=>match c with
  | .skip=>.ok .normal s
  | .label _=>.ok .normal s
  | .ret=>.ok .ret s
  | .exit k=>.ok (.exit k) s
  | .region _ ops false=>runR TT rec n ops ops.toList s
  | .region _ ops true=>bif noDeferL ops.toList then (match planOf TT ops with
   | none=>.bad 84
   | some (F,it)=>match fltOf ops n F with
    | none=>.bad 85
    | some fl=>bif fltZ TT fl then (match vV TT rec n ops it fl [] ⟨delF s.E fl,s.H,s.nx,s.D⟩ with
     | .ok e s'=>bif isNilD s'.D then .ok e s' else .bad 86
     | r=>r) else .bad 87) else .bad 88
  | .seq a b=>(match execR f n a s with
   | .ok .normal s'=>execR f n b s'
   | r=>r)
  | .cond x a b=>(match yV s.E x with
   | some (.b true)=>execR f n a s
   | some (.b false)=>execR f n b s
   | _=>.bad 56)
  | .block id b=>(match execR f n b s with
   | .ok (.exit k) s'=>bif Nat.beq k id then .ok .normal s' else .ok (.exit k) s'
   | r=>r)
  | _=>.bad 57
def yOf (K:LK) (E:En):Op→Option (List AV)
 | .call c=>match c.callee with
  | .value f=>match yV E f with
   | some (.y id)=>bif and (Nat.beq id K.id) (Nat.beq c.args.toList.length K.ps.size) then opndL E c.args.toList else none
   | _=>none
  | _=>none
 | _=>none
def yieldA (K:LK) (vs:List AV) (s:S):Rs:=match execR TT rec 1000 K.n K.assign ⟨putPA K.ps.toList vs K.E,s.H,s.nx,[]⟩ with
 | .ok .normal s1=>execR TT rec 1000 K.n K.body s1
 | .ok _ _=>.bad 58
 | r=>r
def runI (K:LK) (n:Nat) (ops:Array Oper):List Oper→S→Option Ex→RI
 | [],s,j=>.ok .normal s j
 | o::rest,s,j=>bif uI n o.dst then (match wA ops s.E o.guard with
  | none=>.bad (why 61 o.dst)
  | some false=>runI K n ops rest ⟨wH s.E o.dst wC,s.H,s.nx,s.D⟩ j
  | some true=>match yOf K s.E o.op with
   | some vs=>(match j with
    | some _=>.bad 62
    | none=>match yieldA TT rec K vs s with
     | .ok .normal s2=>runI K n ops rest ⟨wH s.E o.dst (.b true),s2.H,s2.nx,s.D⟩ none
     | .ok e s2=>runI K n ops rest ⟨wH s.E o.dst (.b false),s2.H,s2.nx,s.D⟩ (some e)
     | .bad w=>.bad w
     | _=>.bad 63)
   | none=>match yU TT s.E s.H s.nx o.op with
    | .val (v,H,nx)=>runI K n ops rest ⟨wH s.E o.dst v,H,nx,s.D⟩ j
    | .call k vs=>(match rec (.fn k vs s.H s.nx) with
     | .val v H nx=>runI K n ops rest ⟨wH s.E o.dst v,H,nx,s.D⟩ j
     | .bad w=>.bad w
     | .ok _ _=>.bad 64)
    | _=>.bad (why 65 o.dst)) else .bad 66
def vZ (K:LK):Nat→Nat→Code→S→Option Ex→RI
 | 0,_,_,_,_=>.bad 67
 | f+1,n,c,s,j=>match c with
  | .skip=>.ok .normal s j
  | .label _=>.ok .normal s j
  | .ret=>.ok .ret s j
  | .exit k=>.ok (.exit k) s j
  | .region _ ops false=>runI TT rec K n ops ops.toList s j
  | .region id ops true=>(match rec (.code n (.region id ops true) s) with
   | .ok e s'=>(match s'.D with
    | []=>.ok e s' j
    | _=>.bad 68)
   | .bad w=>.bad w
   | _=>.bad 69)
  | .seq a b=>(match vZ K f n a s j with
   | .ok .normal s' j'=>vZ K f n b s' j'
   | r=>r)
  | .cond x a b=>(match yV s.E x with
   | some (.b true)=>vZ K f n a s j
   | some (.b false)=>vZ K f n b s j
   | _=>.bad 70)
  | .block id b=>(match vZ K f n b s j with
   | .ok (.exit k) s' j'=>bif Nat.beq k id then .ok .normal s' j' else .ok (.exit k) s' j'
   | r=>r)
  | .loop b=>(match vZ K f n b s j with
   | .ok .normal s' j'=>vZ K f n (.loop b) s' j'
   | r=>r)
  | _=>.bad 71
def hasRF :Code→Bool
 | .rangeFunc _ _ _ _=>true
 | .seq a b=>or (hasRF a) (hasRF b)
 | .cond _ a b=>or (hasRF a) (hasRF b)
 | .block _ b=>hasRF b
 | .loop b=>hasRF b
 | .scope b=>hasRF b
 | _=>false
inductive RO' where
 | ok (e:Ex) (s:S) (mk:Bool)|bad (w:Nat)
def ltAll (n:Nat):List Nat→Bool
 | []=>true
 | p::l=>and (Nat.blt p n) (ltAll n l)
def execO :Nat→Nat→Code→S→Bool→RO'
 | 0,_,_,_,_=>.bad 72
 | f+1,n,c,s,mk=>bif hasRF c then (match c with
  | .seq a b=>(match execO f n a s mk with
   | .ok .normal s' mk'=>execO f n b s' mk'
   | r=>r)
  | .cond x a b=>(match yV s.E x with
   | some (.b true)=>execO f n a s mk
   | some (.b false)=>execO f n b s mk
   | _=>.bad 73)
  | .block id b=>(match execO f n b s mk with
   | .ok (.exit k) s' mk'=>bif Nat.beq k id then .ok .normal s' mk' else .ok (.exit k) s' mk'
   | r=>r)
  | .rangeFunc g ps assign body=>bif and (not mk) (ltAll n ps.toList) then (match yV s.E g with
   | some (.f k [] cap)=>(match FT k with
    | none=>.bad 74
    | some fn=>match fn.body with
     | none=>.bad 75
     | some cI=>bif and (Nat.ble (Nat.succ cap.length) fn.ntmps) (fn.results.isEmpty) then (match vZ TT rec ⟨s.nx,n,s.E,ps,assign,body⟩ 100000 fn.ntmps cI ⟨uJ (.y s.nx::cap) .e 0,s.H,Nat.succ s.nx,[]⟩ none with
      | .ok (.exit _) _ _=>.bad 76
      | .ok _ sI none=>.ok .normal ⟨s.E,sI.H,sI.nx,s.D⟩ true
      | .ok _ sI (some .ret)=>.ok .ret ⟨s.E,sI.H,sI.nx,s.D⟩ true
      | .ok _ sI (some (.exit k))=>.ok (.exit k) ⟨s.E,sI.H,sI.nx,s.D⟩ true
      | .ok _ _ (some .normal)=>.bad 77
      | .bad w=>.bad (whyF k w)) else .bad 78)
   | _=>.bad 79) else .bad 80
  | _=>.bad 81) else (match rec (.code n c s) with
   | .ok e s'=>bif isNilD s'.D then .ok e s' mk else .bad 82
   | .bad w=>.bad w
   | _=>.bad 83)
def F_rf (k:Nat):jJ:=fun vs H nx=>match FT k with
 | none=>none
 | some fn=>match fn.body with
  | none=>none
  | some c=>bif Nat.ble vs.length fn.ntmps then (match execO TT FT rec 1000 fn.ntmps c ⟨uJ vs .e 0,H,nx,[]⟩ false with
   | .ok (.exit _) _ _=>none
   | .ok _ s _=>(match resA TT s.E s.H fn.results.toList with
    | none=>none
    | some l=>some (oneA l,s.H,s.nx))
   | .bad _=>none) else none
end
section
variable {P:Program} {TT:Nat→Option TI} {FT:Nat→Option Func} {rec:Tk→Rs} {w0:World} {n:Nat} {r:Option Nat}
theorem stepO_nd {E:En} {H:T AO} {nx:Nat} {op:Op} {x:Eff} (h:yU TT E H nx op=.val x):noDefer op=true:=by
 cases op with
 | defer c =>
  simp only [yU] at h
  split at h
  ·split at h
   ·split at h<;>cases h
   ·cases h
  ·cases h
 | _=>rfl
theorem stepO_nd' {E:En} {H:T AO} {nx:Nat} {op:Op} {k:Nat} {vs:List AV} (h:yU TT E H nx op=.call k vs):noDefer op=true:=by
 cases op with
 | defer c =>
  simp only [yU] at h
  split at h
  ·split at h
   ·split at h<;>cases h
   ·cases h
  ·cases h
 | _=>rfl
def PF (P:Program) (V:Val) (fr:Hp) (e:Ex) (s:S):wG:=fun ex g L=>ex=toX e∧s.D=[]∧∃ V' h',V≤V'∧L=h'+fr∧RS P V' s g h'
theorem isNilD_ok {D:List (Nat × List AV × List AV)} (h:isNilD D=true):D=[]:=by cases D with|nil=>rfl|cons=>cases h
theorem noDeferL_ok :∀ {l:List Oper},noDeferL l=true→∀ o∈l,noDefer o.op=true
 | [],_,o,h=>by cases h
 | x::l,h,o,ho=>by
  simp only [noDeferL,Bool.and_eq_true] at h
  rcases List.mem_cons.1 ho with rfl|ho
  ·exact h.1
  ·exact noDeferL_ok h.2 o ho
theorem rowsF {row:String} {args:Array Value} {w:World} {X:Value→World→Prop} (h:Rows P row args w X):RowsIn (Fo r) 0 P row args w X:=fun c cs _ =>
 let ⟨v,w',q,st⟩:=h c cs
 ⟨v,w',q,(stepsIn_wide (P:=P)).2 st⟩
theorem opF {o:Oper} (hnd:noDefer o.op=true) {a:Act} {w:World} {next next':Act→World→Prop} {Q:Exit→Act→World→Prop} (hk:∀ a w,next a w→next' a w) (h:o.wp P a w next Q):o.wpIn (Fo r) 0 P a w next' Q:=by
 refine ⟨fun _ _=>trivial,?_⟩
 rw [Oper.semAt_eq _ _ _ (fun c e=>by rw [e] at hnd; cases hnd)]
 unfold Oper.wp at h
 generalize (execOp a.eval o).run P w=res at h ⊢
 match res,h with
 | .ok (.value v) w',h=>exact hk _ _ h
 | .ok .skip w',h=>exact hk _ _ h
 | .ok (.defer d) w',h=>exact hk _ _ h
 | .ok (.enter f args) w',h =>
  refine ⟨fun e=>(by cases e),CallsIn.mono (callsF h) ?_⟩
  intro e w2 he
  cases e with
  | returned v=>exact hk _ _ he
  | panicked c=>exact he
  | outgrown=>exact he
 | .ok (.row row args) w',h =>
  exact ⟨fun e=>(by cases e),RowsIn.mono (rowsF h) fun v w2 he=>hk _ _ he⟩
 | .halt (.panic v) w',h=>exact h
theorem opsF {ops:Array Oper} (hnd:noDeferL ops.toList=true) {Q:Exit→Act→World→Prop} (hno:¬ LetsOut Q):∀ (l:List Nat) (a:Act) (w:World),wpOps P ops Q l a w→wpOpsIn (Fo r) 0 P ops Q l a w
 | [],a,w,h=>h
 | i::l,a,w,h=>by
  unfold wpOps at h
  unfold wpOpsIn
  split at h
  ·rename_i ho; simp only [ho]; exact opsF hnd hno l a w h
  ·rename_i o ho
   simp only [ho]
   split at h
   ·rename_i hw
    rw [if_pos hw]
    rcases h with h|⟨_,h⟩
    ·exact opF (noDeferL_ok hnd o (by have:=Array.mem_of_getElem? ho; simpa using this)) (fun a w h=>opsF hnd hno l a w h) h
    ·exact absurd h hno
   ·rename_i hw
    rw [if_neg hw]
    exact ⟨fun _ _=>trivial,opsF hnd hno l _ w h⟩
theorem F_draw {id:Nat} {ops:Array Oper} {Q:vA} {g:Env} {L:Hp} (F:List Flt) (s:List Item) (hm:P.follows .mixedOrders=true) (hl:opsN s=ops.size) (hnd:noDeferL ops.toList=true) (hok:jM ops (F.map (·.j)) (Array.replicate ops.size false) s=true)
  (hno:∀ ds g L,¬ Q ds .outgrown g L) (h:HoldXW P n w0 ops F [] (Array.replicate ops.size false) s Q [] g L) {a:Act} {w:World} (ha:jE n a g) (hst:St w0 w L):(Code.region id ops true).wpIn (Fo r) 0 P (liftX n w0 Q) a w:=by
 refine wpIn_region_draw fun t=>opsF hnd (by rintro ⟨a,w,g,L,hq,_⟩; exact hno _ _ _ hq) _ _ _ ?_
 simp only [Region.schedule,hm,Bool.true_or,if_true]
 refine wpAny_sound ops.size t _ a _ (WG_any _ [] _ _ _ ?_)
 exact h hok (by simp) (wE.start ops _) (by simp) [] (by simp) (by simp [jsF]) (wE.start ops _) a { w with drawn:=w.drawn+1 } (by obtain ⟨x,d⟩:=a; cases ha.nodefer; exact ha) ha.nodefer (by show St w0 w.drew (0+L); rw [jX]; exact hst.drew) ops.size (by simpa using hl.symm)
theorem runR_ok (hT:TOk P TT) (hS:Snd P rec) {V0:Val} {e:Ex} {s':S} {fr:Hp} {ops:Array Oper}:∀ (rest:List Oper) (s:S) (V:Val) (g:Env) (h:Hp),runR TT rec n ops rest s=.ok e s'→V0≤V→RS P V s g h→s.D=[] →
  HoldFL r P n w0 ops rest (PF P V0 fr e s') g (h+fr)
 | [],s,V,g,h,hr,hV,hs,hD=>by
  simp only [runR,Rs.ok.injEq] at hr
  obtain ⟨rfl,rfl⟩:=hr
  exact FL_nil ⟨rfl,hD,V,h,hV,rfl,hs⟩
 | o::rest,s,V,g,h,hr,hV,hs,hD=>by
  simp only [runR,cond_eq_ite] at hr
  split at hr
  ·rename_i hdst
   have hdst:=dst_ok hdst
   split at hr
   ·cases hr
   ·rename_i hw
    have hw:=uL hs.env hw
    exact FL_skip hw hdst (runR_ok hT hS rest _ V _ h hr hV ⟨hs.env.put R.und o.dst,hs.heap⟩ hD)
   ·rename_i hw
    have hw:=uL hs.env hw
    split at hr
    ·rename_i v H nx hst
     refine FL_eff hw (stepO_nd hst) hdst (stepO_val (w0:=w0) (fr:=fr) hT hs.env hs.heap hst) ?_
     rintro u L' ⟨V',h',hle,rfl,hR,hH⟩
     exact runR_ok hT hS rest _ V' _ h' hr (Val.trans hV hle) ⟨(hs.env.mono hle).put hR o.dst,hH⟩ hD
    ·rename_i k vs hst
     obtain ⟨us,h1,h2⟩:=stepO_call (P:=P) (g:=g) hs.env hst
     split at hr
     ·rename_i v H nx hcall
      obtain ⟨h3,h4⟩:=hS.fn hcall
      refine FL_call hw (stepO_nd' hst) hdst (h2 h3) (h4 (w0:=w0) h1 hs.heap) O ?_
      rintro u h' ⟨V',hle,hR,hH⟩
      exact runR_ok hT hS rest _ V' _ h' hr (Val.trans hV hle) ⟨(hs.env.mono hle).put hR o.dst,hH⟩ hD
     ·cases hr
     ·cases hr
    ·cases hr
  ·cases hr
theorem F_mono {c:Code} {Q Q':wG} {g:Env} {L:Hp} (hq:∀ e g L,Q' e g L→Q e g L) (h:uU r P n w0 c Q' g L):uU r P n w0 c Q g L:=fun a w ha hw =>
 wpIn_mono (h a w ha hw) (fun e _ _ ⟨g',L',hq',ha',hw'⟩=>⟨g',L',hq e g' L' hq',ha',hw'⟩)
theorem execR_ok (hm:P.follows .mixedOrders=true) (hT:TOk P TT) (hS:Snd P rec):∀ (f:Nat) (c:Code) (s:S) {V0 V:Val} {g:Env} {h fr:Hp} {e:Ex} {s':S},execR TT rec f n c s=.ok e s'→V0≤V→RS P V s g h→s.D=[]→uU r P n w0 c (PF P V0 fr e s') g (h+fr)
 | 0,c,s,V0,V,g,h,fr,e,s',hr,hV,hs,hD=>by cases hr
 | f+1,c,s,V0,V,g,h,fr,e,s',hr,hV,hs,hD=>by
  cases c with
  | skip =>
   simp only [execR,Rs.ok.injEq] at hr
   obtain ⟨rfl,rfl⟩:=hr
   exact F_skip ⟨rfl,hD,V,h,hV,rfl,hs⟩
  | label l =>
   simp only [execR,Rs.ok.injEq] at hr
   obtain ⟨rfl,rfl⟩:=hr
   exact F_label ⟨rfl,hD,V,h,hV,rfl,hs⟩
  | ret =>
   simp only [execR,Rs.ok.injEq] at hr
   obtain ⟨rfl,rfl⟩:=hr
   exact F_ret ⟨rfl,hD,V,h,hV,rfl,hs⟩
  | exit k =>
   simp only [execR,Rs.ok.injEq] at hr
   obtain ⟨rfl,rfl⟩:=hr
   exact F_exit ⟨rfl,hD,V,h,hV,rfl,hs⟩
  | region id ops draw =>
   cases draw with
   | false=>exact F_region (runR_ok hT hS ops.toList s V g h hr hV hs hD)
   | true =>
    simp only [execR,cond_eq_ite] at hr
    split at hr
    ·rename_i hnd
     split at hr
     ·cases hr
     ·rename_i F it hp
      split at hr
      ·cases hr
      ·rename_i fl hfl
       split at hr
       ·rename_i hz
        obtain ⟨hlen,hsel,hok⟩:=planOf_ok hp
        obtain ⟨Fc,hRF,hFc,hFar⟩:=fltOf_ok (P:=P) hT hfl (fltZ_ok hz)
        split at hr
        ·rename_i e1 s1 hrw
         split at hr
         ·rename_i hD1
          simp only [Rs.ok.injEq] at hr
          obtain ⟨rfl,rfl⟩:=hr
          refine F_env (g':=g.filter fun p=>!(Fc.any fun f=>f.d==p.1)) (fun t v hv=>(vH hv).1) ?_
          intro a w ha hst
          refine wpIn_mono (F_draw (Q:=PQ [] P V0 fr e1 s1) Fc it hm hlen hnd (by rw [hFc]; exact hok) (fun ds g L hq=>by cases e1<;>cases hq.1) ?_ ha hst) ?_
          ·refine runW_ok hT hS hsel it fl Fc [] [] _ _ V _ h [] hrw hV ⟨fun t v hv=>?_,hs.heap⟩ (by show RDs [] V s.D []; rw [hD]; rfl) O hRF fun f hf=>⟨fun t v hv=>(by rw [hFar f hf] at hv; cases hv),?_⟩
           ·obtain ⟨h1,h2⟩:=delF_get hRF hv
            obtain ⟨u,h3,h4⟩:=hs.env t v h1
            exact ⟨u,look_filter h3 h2,h4⟩
           ·cases hl:yQ (g.filter fun p=>!(Fc.any fun f=>f.d==p.1)) f.d with
            | none=>rfl
            | some v=>exact absurd O ((vH hl).2 f hf)
          ·rintro ex a' w' ⟨g',L',⟨rfl,V',h',hle,rfl,hs',hd'⟩,ha',hw'⟩
           rw [isNilD_ok hD1] at hd'
           have hd':a'.defers=[]:=hd'
           exact ⟨g',_,⟨rfl,isNilD_ok hD1,V',h',hle,rfl,hs'⟩,by obtain ⟨t,d⟩:=a'; simp only at hd'; subst hd'; exact ha',hw'⟩
         ·cases hr
        ·rename_i hne
         exact absurd hr (hne e s')
       ·cases hr
    ·cases hr
  | seq a b =>
   simp only [execR] at hr
   split at hr
   ·rename_i s1 h1
    refine F_seq (F_mono ?_ (execR_ok hm hT hS f a s h1 hV hs hD))
    rintro ex g1 L1 ⟨rfl,hD1,V1,h1',hle,rfl,hs1⟩
    exact execR_ok hm hT hS f b s1 hr hle hs1 hD1
   ·rename_i hne
    refine F_seq (F_mono ?_ (execR_ok hm hT hS f a s hr hV hs hD))
    rintro ex g1 L1 ⟨rfl,hD1,V1,h1',hle,rfl,hs1⟩
    cases e with
    | normal=>exact absurd hr (hne s')
    | exit k=>exact ⟨rfl,hD1,V1,h1',hle,rfl,hs1⟩
    | ret=>exact ⟨rfl,hD1,V1,h1',hle,rfl,hs1⟩
  | cond x a b =>
   simp only [execR] at hr
   split at hr
   ·rename_i hx
    obtain ⟨u,h1,h2⟩:=yI hs.env hx
    unfold R at h2; subst h2
    exact F_cond h1 (execR_ok hm hT hS f a s hr hV hs hD)
   ·rename_i hx
    obtain ⟨u,h1,h2⟩:=yI hs.env hx
    unfold R at h2; subst h2
    exact F_cond h1 (execR_ok hm hT hS f b s hr hV hs hD)
   ·cases hr
  | block id b =>
   simp only [execR] at hr
   split at hr
   ·rename_i k s1 h1
    refine F_block (F_mono ?_ (execR_ok hm hT hS f b s h1 hV hs hD))
    rintro ex g1 L1 ⟨rfl,hD1,V1,h1',hle,rfl,hs1⟩
    rw [cond_eq_ite] at hr
    split at hr
    ·rename_i hk
     simp only [Rs.ok.injEq] at hr
     obtain ⟨rfl,rfl⟩:=hr
     have hk:k=id:=by simpa using hk
     exact ite_yes (c:=k=id) hk ⟨rfl,hD1,V1,h1',hle,rfl,hs1⟩
    ·rename_i hk
     simp only [Rs.ok.injEq] at hr
     obtain ⟨rfl,rfl⟩:=hr
     have hk:¬ k=id:=by simpa using hk
     exact ite_no (c:=k=id) hk ⟨rfl,hD1,V1,h1',hle,rfl,hs1⟩
   ·rename_i hne
    refine F_block (F_mono ?_ (execR_ok hm hT hS f b s hr hV hs hD))
    rintro ex g1 L1 ⟨rfl,hD1,V1,h1',hle,rfl,hs1⟩
    cases e with
    | exit k=>exact absurd hr (hne k s')
    | normal=>exact ⟨rfl,hD1,V1,h1',hle,rfl,hs1⟩
    | ret=>exact ⟨rfl,hD1,V1,h1',hle,rfl,hs1⟩
  | _=>simp [execR] at hr
theorem RE_putP {V:Val}:∀ {ps:List Nat} {vs:List AV} {us:List Value} {E:En} {g:Env},RL V vs us→RE V E g→RE V (putPA ps vs E) (putP ps us g)
 | [],vs,us,E,g,_,h=>h
 | p::ps,[],us,E,g,hl,h=>by rw [RL.nil.1 hl]; exact h
 | p::ps,v::vs,us,E,g,hl,h=>by
  obtain ⟨u,us',rfl,h1,h2⟩:=RL.cons.1 hl
  show RE V (putPA ps vs (E.put v p)) (putP ps us' ((p,u)::g))
  exact RE_putP h2 (h.put h1 (some p))
def rcOf (fn:FuncId) (tmps:Array Value) (D:Nat) (K:LK) (j:Option Ex):Loop:=⟨match j with|none=>.ready|some _=>.done,j.map exC,fn,tmps,K.ps,K.assign,K.body,D⟩
def bOf :Option Ex→Bool
 | none=>true
 | some _=>false
def jOf :Ex→Option Ex
 | .normal=>none
 | e=>some e
theorem yieldA_ok (hm:P.follows .mixedOrders=true) (hT:TOk P TT) (hS:Snd P rec) {K:LK} {fn:FuncId} {tmps:Array Value} {D l:Nat} {g2:Env} {V2:Val} (hps:K.ps.toList.all (·<K.n)=true) (hg:jE K.n { tmps:=tmps,defers:=[] } g2) (hE:RE V2 K.E g2)
  {vs:List AV} {us:List Value} {s:S} {V:Val} {g:Env} {h fr:Hp} {e:Ex} {s2:S} (hr:yieldA TT rec K vs s=.ok e s2) (hV2:V2≤V) (hs:RS P V s g h) (hl:RL V vs us) :
  RoundOk P w0 l (rcOf fn tmps D K none) us (h+fr) fun b rc' L2=>b=bOf (jOf e)∧rc'=rcOf fn tmps D K (jOf e)∧∃ V' h',V≤V'∧L2=h'+fr∧RH P V' s2.H s2.nx h':=by
 unfold yieldA at hr
 split at hr
 ·rename_i s1 h1
  refine round_ok (n:=K.n) (g:=g2) hps hg O ?_
  have ha:=execR_ok (r:=some l) (w0:=w0) (fr:=pt l (uD (rcOf fn tmps D K none))+fr) hm hT hS 1000 K.assign _ h1 (Val.refl V) ⟨RE_putP (ps:=K.ps.toList) hl (hE.mono hV2),hs.heap⟩ rfl
  have e1:pt l (uD (rcOf fn tmps D K none))+(h+fr)=h+(pt l (uD (rcOf fn tmps D K none))+fr):=by rw [← yH,jB _ h,yH]
  rw [e1]
  refine F_mono ?_ ha
  rintro ex g1 L1 ⟨rfl,hD1,V1,h1',hle,rfl,hs1⟩
  refine ⟨rfl,h1'+fr,by rw [← yH,jB h1',yH],?_⟩
  have hb:=execR_ok (r:=some l) (w0:=w0) (fr:=pt l (uD { rcOf fn tmps D K none with state:=.busy })+fr) hm hT hS 1000 K.body s1 hr hle hs1 hD1
  have e2:pt l (uD { rcOf fn tmps D K none with state:=.busy })+(h1'+fr)=h1'+(pt l (uD { rcOf fn tmps D K none with state:=.busy })+fr):=by rw [← yH,jB _ h1',yH]
  rw [e2]
  refine F_mono ?_ hb
  rintro ex g3 L3 ⟨rfl,_,V3,h3',hle3,rfl,hs3⟩
  have e3:h3'+(pt l (uD { rcOf fn tmps D K none with state:=.busy })+fr)=pt l (uD { rcOf fn tmps D K none with state:=.busy })+(h3'+fr):=by rw [← yH,jB h3',yH]
  cases e with
  | normal=>exact ⟨_,e3,rfl,rfl,V3,h3',hle3,rfl,hs3.heap⟩
  | ret=>exact ⟨_,e3,rfl,rfl,V3,h3',hle3,rfl,hs3.heap⟩
  | exit k=>exact ⟨_,e3,rfl,rfl,V3,h3',hle3,rfl,hs3.heap⟩
 ·cases hr
 ·rename_i h1 h2
  cases e with
  | normal=>exact absurd hr (h1 _)
  | _=>exact absurd hr (h2 _ _)
theorem yOf_ok {K:LK} {V:Val} {E:En} {g:Env} (hE:RE V E g) {op:Op} {vs:List AV} (h:yOf K E op=some vs) :
  ∃ f xs ts us l C,op=.call { callee:=.value f,args:=xs,argTypes:=ts }∧V K.id=some (l,C)∧ev g f=some (.func (.yield l) #[] #[])∧evs g xs.toList=some us∧RL V vs us∧us.length=K.ps.size:=by
 unfold yOf at h
 split at h
 ·rename_i c
  obtain ⟨callee,args,ts⟩:=c
  simp only at h
  split at h
  ·rename_i f
   split at h
   ·rename_i id hf
    rw [cond_eq_ite] at h
    split at h
    ·rename_i hc
     simp only [Bool.and_eq_true,Nat.beq_eq] at hc
     obtain ⟨rfl,hc⟩:=hc
     obtain ⟨u,h1,h2⟩:=yI hE hf
     unfold R at h2
     obtain ⟨b,C,h3,rfl⟩:=h2
     obtain ⟨us,h4,h5⟩:=opndL_ok hE h
     refine ⟨f,args,ts,us,b,C,rfl,h3,h1,h4,h5,?_⟩
     have:∀ {xs:List Operand} {us:List Value},evs g xs=some us→us.length=xs.length:=by
      intro xs
      induction xs with
      | nil=>intro us h; simp only [evs,Option.some.injEq] at h; subst h; rfl
      | cons x xs ih =>
       intro us h
       simp only [evs] at h
       split at h
       ·rename_i h1 h2
        simp only [Option.some.injEq] at h; subst h
        simp [ih h2]
       ·cases h
     rw [this h4,hc]
    ·cases h
   ·cases h
  ·cases h
 ·cases h
structure LC (P:Program) (K:LK) (fn:FuncId) (tmps:Array Value) (D l:Nat) (g2:Env) (V2:Val):Prop where
 ps:K.ps.toList.all (·<K.n)=true
 fits:jE K.n { tmps:=tmps,defers:=[] } g2
 env:RE V2 K.E g2
 name:V2 K.id=some (l,0)
def PI (P:Program) (K:LK) (fn:FuncId) (tmps:Array Value) (D l:Nat) (V:Val) (fr:Hp) (e:Ex) (s:S) (j:Option Ex):wG :=
 fun ex g L=>ex=toX e∧s.D=[]∧∃ V' h',V≤V'∧L=pt l (uD (rcOf fn tmps D K j))+(h'+fr)∧RS P V' s g h'
variable {K:LK} {fn:FuncId} {tmps:Array Value} {D l:Nat} {g2:Env} {V2:Val}
theorem runI_ok (hm:P.follows .mixedOrders=true) (hT:TOk P TT) (hS:Snd P rec) (hK:LC P K fn tmps D l g2 V2) {V0:Val} {e:Ex} {s':S} {j':Option Ex} {fr:Hp} {ops:Array Oper}:∀ (rest:List Oper) (s:S) (j:Option Ex) (V:Val) (g:Env) (h:Hp),runI TT rec K n ops rest s j=.ok e s' j'→V2≤V→V0≤V→RS P V s g h→s.D=[] →
  HoldFL none P n w0 ops rest (PI P K fn tmps D l V0 fr e s' j') g (pt l (uD (rcOf fn tmps D K j))+(h+fr))
 | [],s,j,V,g,h,hr,hV2,hV,hs,hD=>by
  simp only [runI,RI.ok.injEq] at hr
  obtain ⟨rfl,rfl,rfl⟩:=hr
  exact FL_nil ⟨rfl,hD,V,h,hV,rfl,hs⟩
 | o::rest,s,j,V,g,h,hr,hV2,hV,hs,hD=>by
  have sw:∀ (x:Hp),pt l (uD (rcOf fn tmps D K j))+(x+fr)=x+(pt l (uD (rcOf fn tmps D K j))+fr):=fun x=>by rw [← yH,jB _ x,yH]
  simp only [runI,cond_eq_ite] at hr
  split at hr
  ·rename_i hdst
   have hdst:=dst_ok hdst
   split at hr
   ·cases hr
   ·rename_i hw
    have hw:=uL hs.env hw
    exact FL_skip hw hdst (runI_ok hm hT hS hK rest _ j V _ h hr hV2 hV ⟨hs.env.put R.und o.dst,hs.heap⟩ hD)
   ·rename_i hw
    have hw:=uL hs.env hw
    split at hr
    ·rename_i vs hy
     obtain ⟨f,xs,ts,us,l',C,ho,h1,h2,h3,h4,h5⟩:=yOf_ok hs.env hy
     rw [hV2 _ _ hK.name] at h1
     simp only [Option.some.injEq,Prod.mk.injEq] at h1
     obtain ⟨rfl,rfl⟩:=h1
     obtain ⟨dst,op,ty,pos,af,gd⟩:=o
     simp only at ho; subst ho
     split at hr
     ·cases hr
     ·split at hr
      ·rename_i s2 hy2
       have hro:=yieldA_ok (w0:=w0) (l:=l) (fr:=fr) (fn:=fn) (tmps:=tmps) (D:=D) hm hT hS hK.ps hK.fits hK.env hy2 hV2 hs h4
       refine FL_yield hw hdst h2 h3 h5 O hro ?_
       rintro b rc' L2 ⟨rfl,rfl,V',h',hle,rfl,hH⟩
       exact runI_ok hm hT hS hK rest _ none V' _ h' hr (Val.trans hV2 hle) (Val.trans hV hle) ⟨(hs.env.mono hle).put (show R _ (.b true) (.bool (bOf (jOf .normal))) by unfold R; rfl) dst,hH⟩ hD
      ·rename_i e2 s2 hne hy2
       have hro:=yieldA_ok (w0:=w0) (l:=l) (fr:=fr) (fn:=fn) (tmps:=tmps) (D:=D) hm hT hS hK.ps hK.fits hK.env hy2 hV2 hs h4
       have hj:jOf e2=some e2:=by
        cases e2 with
        | normal=>exact absurd O hne
        | _=>rfl
       rw [hj] at hro
       refine FL_yield hw hdst h2 h3 h5 O hro ?_
       rintro b rc' L2 ⟨rfl,rfl,V',h',hle,rfl,hH⟩
       exact runI_ok hm hT hS hK rest _ (some e2) V' _ h' hr (Val.trans hV2 hle) (Val.trans hV hle) ⟨(hs.env.mono hle).put (show R _ (.b false) (.bool (bOf (some e2))) by unfold R; rfl) dst,hH⟩ hD
      ·cases hr
      ·cases hr
    ·split at hr
     ·rename_i v H nx hst
      rw [sw]
      refine FL_eff hw (stepO_nd hst) hdst (stepO_val (w0:=w0) (fr:=pt l (uD (rcOf fn tmps D K j))+fr) hT hs.env hs.heap hst) ?_
      rintro u L' ⟨V',h',hle,rfl,hR,hH⟩
      rw [← sw]
      exact runI_ok hm hT hS hK rest _ j V' _ h' hr (Val.trans hV2 hle) (Val.trans hV hle) ⟨(hs.env.mono hle).put hR o.dst,hH⟩ hD
     ·rename_i k vs hst
      obtain ⟨us,h1,h2⟩:=stepO_call (P:=P) (g:=g) hs.env hst
      split at hr
      ·rename_i v H nx hcall
       obtain ⟨h3,h4⟩:=hS.fn hcall
       rw [sw]
       refine FL_call hw (stepO_nd' hst) hdst (h2 h3) (h4 (w0:=w0) h1 hs.heap) O ?_
       rintro u h' ⟨V',hle,hR,hH⟩
       rw [← sw]
       exact runI_ok hm hT hS hK rest _ j V' _ h' hr (Val.trans hV2 hle) (Val.trans hV hle) ⟨(hs.env.mono hle).put hR o.dst,hH⟩ hD
      ·cases hr
      ·cases hr
     ·cases hr
  ·cases hr
theorem execI_ok (hm:P.follows .mixedOrders=true) (hT:TOk P TT) (hS:Snd P rec) (hK:LC P K fn tmps D l g2 V2):∀ (f:Nat) (c:Code) (s:S) (j:Option Ex) {V0 V:Val} {g:Env} {h fr:Hp} {e:Ex} {s':S} {j':Option Ex},vZ TT rec K f n c s j=.ok e s' j'→V2≤V→V2≤V0→V0≤V→RS P V s g h→s.D=[] →
  vK P n w0 c (PI P K fn tmps D l V0 fr e s' j') g (pt l (uD (rcOf fn tmps D K j))+(h+fr)):=by
 intro f
 induction f using Nat.strongRecOn with
 | _ f ih =>
 intro c s j V0 V g h fr e s' j' hr hV2 hV20 hV hs hD
 cases f with
 | zero=>cases hr
 | succ f =>
  have ih':∀ (c:Code) (s:S) (j:Option Ex) {V0 V:Val} {g:Env} {h fr:Hp} {e:Ex} {s':S} {j':Option Ex},vZ TT rec K f n c s j=.ok e s' j'→V2≤V→V2≤V0→V0≤V→RS P V s g h→s.D=[] →
   vK P n w0 c (PI P K fn tmps D l V0 fr e s' j') g (pt l (uD (rcOf fn tmps D K j))+(h+fr)):=fun c s j=>ih f (Nat.lt_succ_self f) c s j
  cases c with
  | skip =>
   simp only [vZ,RI.ok.injEq] at hr
   obtain ⟨rfl,rfl,rfl⟩:=hr
   exact zN ⟨rfl,hD,V,h,hV,rfl,hs⟩
  | label l =>
   simp only [vZ,RI.ok.injEq] at hr
   obtain ⟨rfl,rfl,rfl⟩:=hr
   exact hold_label ⟨rfl,hD,V,h,hV,rfl,hs⟩
  | ret =>
   simp only [vZ,RI.ok.injEq] at hr
   obtain ⟨rfl,rfl,rfl⟩:=hr
   exact zK ⟨rfl,hD,V,h,hV,rfl,hs⟩
  | exit k =>
   simp only [vZ,RI.ok.injEq] at hr
   obtain ⟨rfl,rfl,rfl⟩:=hr
   exact zY ⟨rfl,hD,V,h,hV,rfl,hs⟩
  | region id ops draw =>
   cases draw with
   | false=>exact hold_of_F (F_region (runI_ok hm hT hS hK ops.toList s j V g h hr hV2 hV hs hD))
   | true =>
    simp only [vZ] at hr
    split at hr
    ·rename_i e1 s1 h1
     split at hr
     ·rename_i hD1
      simp only [RI.ok.injEq] at hr
      obtain ⟨rfl,rfl,rfl⟩:=hr
      have sw:∀ (x:Hp),pt l (uD (rcOf fn tmps D K j))+(x+fr)=x+(pt l (uD (rcOf fn tmps D K j))+fr):=fun x=>by rw [← yH,jB _ x,yH]
      rw [sw]
      have hx:=hS.code h1 (w0:=w0) (fr:=pt l (uD (rcOf fn tmps D K j))+fr) (ds:=[]) (B:=[]) hV hs (by rw [hD]; rfl)
      intro a w ha hw
      refine Code.wp_mono ?_ (hx a w (by obtain ⟨t,d⟩:=a; cases ha.nodefer; exact ha) ha.nodefer hw)
      rintro ex a' w' ⟨g',L',⟨rfl,V',h',hle,rfl,hs',hd'⟩,ha',hw'⟩
      rw [hD1] at hd'
      have hd':a'.defers=[]:=hd'
      exact ⟨g',_,⟨rfl,hD1,V',h',hle,(sw h').symm,hs'⟩,by obtain ⟨t,d⟩:=a'; simp only at hd'; subst hd'; exact ha',hw'⟩
     ·cases hr
    ·cases hr
    ·cases hr
  | seq a b =>
   simp only [vZ] at hr
   split at hr
   ·rename_i s1 j1 h1
    refine zC (uT ?_ (ih' a s j h1 hV2 hV20 hV hs hD))
    rintro ex g1 L1 ⟨rfl,hD1,V1,h1',hle,rfl,hs1⟩
    exact ih' b s1 j1 hr (Val.trans hV20 hle) hV20 hle hs1 hD1
   ·rename_i hne
    refine zC (uT ?_ (ih' a s j hr hV2 hV20 hV hs hD))
    rintro ex g1 L1 ⟨rfl,hD1,V1,h1',hle,rfl,hs1⟩
    cases e with
    | normal=>exact absurd hr (hne s' j')
    | exit k=>exact ⟨rfl,hD1,V1,h1',hle,rfl,hs1⟩
    | ret=>exact ⟨rfl,hD1,V1,h1',hle,rfl,hs1⟩
  | cond x a b =>
   simp only [vZ] at hr
   split at hr
   ·rename_i hx
    obtain ⟨u,h1,h2⟩:=yI hs.env hx
    unfold R at h2; subst h2
    exact zG h1 (ih' a s j hr hV2 hV20 hV hs hD)
   ·rename_i hx
    obtain ⟨u,h1,h2⟩:=yI hs.env hx
    unfold R at h2; subst h2
    exact zF h1 (ih' b s j hr hV2 hV20 hV hs hD)
   ·cases hr
  | block id b =>
   simp only [vZ] at hr
   split at hr
   ·rename_i k s1 j1 h1
    refine zP (uT ?_ (ih' b s j h1 hV2 hV20 hV hs hD))
    rintro ex g1 L1 ⟨rfl,hD1,V1,h1',hle,rfl,hs1⟩
    rw [cond_eq_ite] at hr
    split at hr
    ·rename_i hk
     simp only [RI.ok.injEq] at hr
     obtain ⟨rfl,rfl,rfl⟩:=hr
     have hk:k=id:=by simpa using hk
     exact ite_yes (c:=k=id) hk ⟨rfl,hD1,V1,h1',hle,rfl,hs1⟩
    ·rename_i hk
     simp only [RI.ok.injEq] at hr
     obtain ⟨rfl,rfl,rfl⟩:=hr
     have hk:¬ k=id:=by simpa using hk
     exact ite_no (c:=k=id) hk ⟨rfl,hD1,V1,h1',hle,rfl,hs1⟩
   ·rename_i hne
    refine zP (uT ?_ (ih' b s j hr hV2 hV20 hV hs hD))
    rintro ex g1 L1 ⟨rfl,hD1,V1,h1',hle,rfl,hs1⟩
    cases e with
    | exit k=>exact absurd hr (hne k s' j')
    | normal=>exact ⟨rfl,hD1,V1,h1',hle,rfl,hs1⟩
    | ret=>exact ⟨rfl,hD1,V1,h1',hle,rfl,hs1⟩
  | loop b =>
   refine hold_loop (fun m g L=>∃ s1 j1 V1 h1,m≤f+1∧vZ TT rec K m n (.loop b) s1 j1=.ok e s' j'∧V0≤V1∧L=pt l (uD (rcOf fn tmps D K j1))+(h1+fr)∧RS P V1 s1 g h1∧s1.D=[]) (f+1) g
    ⟨s,j,V,h,Nat.le_refl _,hr,hV,rfl,hs,hD⟩ (Sub.refl g) ?_
   rintro m g L ⟨s1,j1,V1,h1,hm,hr,hV1,rfl,hs1,hD1⟩
   cases m with
   | zero=>cases hr
   | succ m =>
    simp only [vZ] at hr
    split at hr
    ·rename_i s2 j2 h2
     refine uT ?_ (ih m (by omega) b s1 j1 h2 (Val.trans hV20 hV1) hV20 hV1 hs1 hD1)
     rintro ex g2 L2 ⟨rfl,hD2,V2',h2',hle,rfl,hs2⟩
     exact ⟨m,g2,Nat.lt_succ_self m,Sub.refl _,s2,j2,V2',h2',by omega,hr,hle,rfl,hs2,hD2⟩
    ·rename_i hne
     refine uT ?_ (ih m (by omega) b s1 j1 hr (Val.trans hV20 hV1) hV20 hV1 hs1 hD1)
     rintro ex g2 L2 ⟨rfl,hD2,V2',h2',hle,rfl,hs2⟩
     cases e with
     | normal=>exact absurd hr (hne s' j')
     | exit k=>exact ⟨rfl,hD2,V2',h2',hle,rfl,hs2⟩
     | ret=>exact ⟨rfl,hD2,V2',h2',hle,rfl,hs2⟩
  | _=>simp [vZ] at hr
theorem RH.name {V:Val} {H:T AO} {nx:Nat} {h:Hp} (hH:RH P V H nx h) (b C:Nat):RH P (V.set nx b C) H (Nat.succ nx) h where
 fresh:=fun id hid=>by
  have hid:nx+1≤id:=hid
  unfold Val.set; rw [if_neg (by omega)]; exact hH.fresh id (by omega)
 has:=fun id o ho=>by
  obtain ⟨b',C',ob,Rr,h1,h2,h3⟩:=hH.has id o ho
  have hle:V≤V.set nx b C:=Val.le_set (hH.fresh nx (Nat.le_refl _))
  exact ⟨b',C',ob,Rr,hle _ _ h1,h2,h3.mono hle⟩
 inj:=fun id id' o o' b' C1 C2 h1 h2 h3 h4=>by
  obtain ⟨b1,D1,_,_,k1,_,_⟩:=hH.has id o h1
  obtain ⟨b2,D2,_,_,k2,_,_⟩:=hH.has id' o' h2
  have n1:id≠nx:=fun e=>by subst e; rw [hH.fresh id (Nat.le_refl _)] at k1; cases k1
  have n2:id'≠nx:=fun e=>by subst e; rw [hH.fresh id' (Nat.le_refl _)] at k2; cases k2
  unfold Val.set at h3 h4
  rw [if_neg n1] at h3; rw [if_neg n2] at h4
  exact hH.inj id id' o o' b' C1 C2 h1 h2 h3 h4
def MK (mk:Bool) (ds:List Deferred) (X:Hp):Prop:=match mk with
 | false=>ds=[]∧X=0
 | true=>∃ D,ds=[markD D]∧X=pt D (.deferred (some []))
def PO (P:Program) (V:Val) (fr:Hp) (e:Ex) (s:S) (mk:Bool):vA:=fun ds ex g L=>ex=toX e∧s.D=[]∧∃ V' h' X,V≤V'∧MK mk ds X∧L=X+(h'+fr)∧RS P V' s g h'
theorem ltAll_ok :∀ {l:List Nat},ltAll n l=true→l.all (·<n)=true
 | [],_=>rfl
 | p::l,h=>by
  simp only [ltAll,Bool.and_eq_true] at h
  simp only [List.all_cons,Bool.and_eq_true,decide_eq_true_eq]
  exact ⟨by simpa [kU] using h.1,ltAll_ok h.2⟩
theorem execO_ok (hmx:P.follows .mixedOrders=true) (hT:TOk P TT) (hF:FOk P FT) (hS:Snd P rec):∀ (f:Nat) (c:Code) (s:S) (mk:Bool) {V0 V:Val} {g:Env} {h fr X:Hp} {ds:List Deferred} {e:Ex} {s':S} {mk':Bool},execO TT FT rec f n c s mk=.ok e s' mk'→V0≤V→RS P V s g h→s.D=[]→MK mk ds X →
  vD P n w0 c (PO P V0 fr e s' mk') ds g (X+(h+fr))
 | 0,c,s,mk,V0,V,g,h,fr,X,ds,e,s',mk',hr,hV,hs,hD,hm=>by cases hr
 | f+1,c,s,mk,V0,V,g,h,fr,X,ds,e,s',mk',hr,hV,hs,hD,hm=>by
  have sw:∀ (X x fr:Hp),X+(x+fr)=x+(X+fr):=fun X x fr=>by rw [← yH,jB _ x,yH]
  simp only [execO,cond_eq_ite] at hr
  split at hr
  ·split at hr
   ·rename_i a b _
    split at hr
    ·rename_i s1 mk1 h1
     refine X_seq (wZ ?_ (execO_ok hmx hT hF hS f a s mk h1 hV hs hD hm))
     rintro ds1 ex g1 L1 ⟨rfl,hD1,V1,h1',X1,hle,hm1,rfl,hs1⟩
     exact execO_ok hmx hT hF hS f b s1 mk1 hr hle hs1 hD1 hm1
    ·rename_i hne
     refine X_seq (wZ ?_ (execO_ok hmx hT hF hS f a s mk hr hV hs hD hm))
     rintro ds1 ex g1 L1 ⟨rfl,hD1,V1,h1',X1,hle,hm1,rfl,hs1⟩
     cases e with
     | normal=>exact absurd hr (hne s' mk')
     | exit k=>exact ⟨rfl,hD1,V1,h1',X1,hle,hm1,rfl,hs1⟩
     | ret=>exact ⟨rfl,hD1,V1,h1',X1,hle,hm1,rfl,hs1⟩
   ·rename_i x a b _
    split at hr
    ·rename_i hx
     obtain ⟨u,h1,h2⟩:=yI hs.env hx
     unfold R at h2; subst h2
     exact X_cond h1 (execO_ok hmx hT hF hS f a s mk hr hV hs hD hm)
    ·rename_i hx
     obtain ⟨u,h1,h2⟩:=yI hs.env hx
     unfold R at h2; subst h2
     exact X_cond h1 (execO_ok hmx hT hF hS f b s mk hr hV hs hD hm)
    ·cases hr
   ·rename_i id b _
    split at hr
    ·rename_i k s1 mk1 h1
     refine X_block (wZ ?_ (execO_ok hmx hT hF hS f b s mk h1 hV hs hD hm))
     rintro ds1 ex g1 L1 ⟨rfl,hD1,V1,h1',X1,hle,hm1,rfl,hs1⟩
     split at hr
     ·rename_i hk
      simp only [RO'.ok.injEq] at hr
      obtain ⟨rfl,rfl,rfl⟩:=hr
      have hk:k=id:=by simpa using hk
      exact ite_yes (c:=k=id) hk ⟨rfl,hD1,V1,h1',X1,hle,hm1,rfl,hs1⟩
     ·rename_i hk
      simp only [RO'.ok.injEq] at hr
      obtain ⟨rfl,rfl,rfl⟩:=hr
      have hk:¬ k=id:=by simpa using hk
      exact ite_no (c:=k=id) hk ⟨rfl,hD1,V1,h1',X1,hle,hm1,rfl,hs1⟩
    ·rename_i hne
     refine X_block (wZ ?_ (execO_ok hmx hT hF hS f b s mk hr hV hs hD hm))
     rintro ds1 ex g1 L1 ⟨rfl,hD1,V1,h1',X1,hle,hm1,rfl,hs1⟩
     cases e with
     | exit k=>exact absurd hr (hne k s' mk')
     | normal=>exact ⟨rfl,hD1,V1,h1',X1,hle,hm1,rfl,hs1⟩
     | ret=>exact ⟨rfl,hD1,V1,h1',X1,hle,hm1,rfl,hs1⟩
   ·rename_i gop ps assign body _
    split at hr
    ·rename_i hc
     simp only [Bool.and_eq_true,Bool.not_eq_true'] at hc
     obtain ⟨rfl,hps⟩:=hc
     obtain ⟨rfl,rfl⟩:=hm
     rw [jX]
     split at hr
     ·rename_i k cap hg
      split at hr
      ·cases hr
      ·rename_i fnI hfn
       obtain ⟨hk,hfun⟩:=hF k fnI hfn
       split at hr
       ·cases hr
       ·rename_i cI hb
        split at hr
        ·rename_i hc2
         simp only [Bool.and_eq_true] at hc2
         obtain ⟨hlen,hres⟩:=hc2
         have hlen:cap.length+1≤fnI.ntmps:=Nat.le_of_ble_eq_true hlen
         have hres:fnI.results=#[]:=by simpa using hres
         obtain ⟨u,h1,h2⟩:=yI hs.env hg
         unfold R at h2
         obtain ⟨fs,cs,h3,h4,rfl⟩:=h2
         rw [RL.nil.1 h3] at h1
         obtain ⟨hfun⟩:=hfun
         refine X_range (cap:=cs) h1 fun fn tmps D l hfit=>?_
         have hle2:V≤V.set s.nx l 0:=Val.le_set (hs.heap.fresh s.nx (Nat.le_refl _))
         have hK:LC P ⟨s.nx,n,s.E,ps,assign,body⟩ fn tmps D l g (V.set s.nx l 0):=⟨ltAll_ok hps,hfit,hs.env.mono hle2,Val.set_self _ _ _ _⟩
         have run:∀ {eI:Ex} {sI:S} {jI:Option Ex} {post:Value→Hp→Prop},vZ TT rec ⟨s.nx,n,s.E,ps,assign,body⟩ 100000 fnI.ntmps cI ⟨uJ (.y s.nx::cap) .e 0,s.H,Nat.succ s.nx,[]⟩ none=.ok eI sI jI→(eI=.normal∨eI=.ret) →
           (∀ V' h',V.set s.nx l 0≤V'→RH P V' sI.H sI.nx h'→post (.tuple #[]) (pt l (uD (rcOf fn tmps D ⟨s.nx,n,s.E,ps,assign,body⟩ jI))+(h'+fr))) →
           Spec P w0 k (.func (.yield l) #[] #[]::cs) (pt l (uD (rcOf fn tmps D ⟨s.nx,n,s.E,ps,assign,body⟩ none))+(h+fr)) post:=by
          intro eI sI jI post hI heI hpost
          refine spec_of_hold (rs:=[]) hk hb O (by rw [hres]) (by simp only [List.length_cons,decide_eq_true_eq]; rw [h4.length]; exact hlen) fun fr2=>?_
          have hx:=execI_ok (w0:=w0) (n:=fnI.ntmps) (fr:=fr+fr2) (V0:=V.set s.nx l 0) (h:=h) (g:=argE 0 (.func (.yield l) #[] #[]::cs)) hmx hT hS hK 100000 cI _ none hI (Val.refl _) (Val.refl _) (Val.refl _)
           ⟨args_RE (RL.mk (show R _ (.y s.nx) _ by unfold R; exact ⟨l,0,Val.set_self _ _ _ _,rfl⟩) (h4.mono hle2 _)),hs.heap.name l 0⟩ rfl
          have e1:∀ (x y:Hp),x+(y+fr)+fr2=x+(y+(fr+fr2)):=fun x y=>by simp only [yH]
          rw [e1]
          refine uT ?_ hx
          rintro ex g1 L1 ⟨rfl,_,V1,h1',hle,rfl,hs1⟩
          rw [← e1]
          rcases heI with rfl|rfl
          ·exact ⟨[],_,trivial,hpost V1 h1' hle hs1.heap,rfl⟩
          ·exact ⟨[],_,trivial,hpost V1 h1' hle hs1.heap,rfl⟩
         have fin:∀ {jI:Option Ex} {sI:S} {V':Val} {h':Hp} {ex:Ex},V.set s.nx l 0≤V'→RH P V' sI.H sI.nx h'→e=ex→s'=⟨s.E,sI.H,sI.nx,s.D⟩→mk'=true→PO P V0 fr e s' mk' (markD D::[]) (toX ex) g (pt D (.deferred (some []))+(h'+fr)):=by
          rintro jI sI V' h' ex hle hH rfl rfl rfl
          exact ⟨rfl,hD,V',h',_,Val.trans hV (Val.trans hle2 hle),⟨D,rfl,rfl⟩,rfl,⟨hs.env.mono (Val.trans hle2 hle),hH⟩⟩
         split at hr
         ·cases hr
         ·rename_i eI sI hne hI
          simp only [RO'.ok.injEq] at hr
          obtain ⟨rfl,rfl,rfl⟩:=hr
          refine run hI ?_ fun V' h' hle hH=>⟨_,_,h'+fr,rfl,by simp [rcOf],fin (jI:=none) hle hH O O O⟩
          cases eI with
          | normal=>exact .inl O
          | ret=>exact .inr O
          | exit k=>exact absurd O (hne k)
         ·rename_i eI sI hne hI
          simp only [RO'.ok.injEq] at hr
          obtain ⟨rfl,rfl,rfl⟩:=hr
          refine run hI ?_ fun V' h' hle hH=>⟨_,_,h'+fr,rfl,by simp [rcOf],fin (jI:=some .ret) hle hH O O O⟩
          cases eI with
          | normal=>exact .inl O
          | ret=>exact .inr O
          | exit k=>exact absurd O (hne k)
         ·rename_i eI sI k2 hne hI
          simp only [RO'.ok.injEq] at hr
          obtain ⟨rfl,rfl,rfl⟩:=hr
          refine run hI ?_ fun V' h' hle hH=>⟨_,_,h'+fr,rfl,by simp [rcOf],fin (jI:=some (.exit k2)) hle hH O O O⟩
          cases eI with
          | normal=>exact .inl O
          | ret=>exact .inr O
          | exit k=>exact absurd O (hne k)
         ·cases hr
         ·cases hr
        ·cases hr
     ·cases hr
    ·cases hr
   ·cases hr
  ·split at hr
   ·rename_i e1 s1 h1
    split at hr
    ·rename_i hn
     simp only [RO'.ok.injEq] at hr
     obtain ⟨rfl,rfl,rfl⟩:=hr
     rw [sw]
     have hx:=hS.code h1 (w0:=w0) (fr:=X+fr) (ds:=ds) (B:=ds) hV hs (by rw [hD]; rfl)
     refine wZ ?_ hx
     rintro ds1 ex g1 L1 ⟨rfl,V1,h1',hle,rfl,hs1,hd1⟩
     rw [isNilD_ok hn] at hd1
     have hd1:ds1=ds:=hd1
     subst hd1
     exact ⟨rfl,isNilD_ok hn,V1,h1',X,hle,hm,(sw _ _ _).symm,hs1⟩
    ·cases hr
   ·cases hr
   ·cases hr
theorem rf_sum (hm:P.follows .mixedOrders=true) (hT:TOk P TT) (hF:FOk P FT) (hS:Snd P rec) {k:Nat} (hk:Nonempty (Fun P k)):jK P k (F_rf TT FT rec k):=by
 refine ⟨hk,fun {w0 V vs us H nx h r} hl hH hFr=>?_⟩
 unfold F_rf at hFr
 split at hFr
 ·cases hFr
 ·rename_i fn hfn
  obtain ⟨hk1,_⟩:=hF k fn hfn
  split at hFr
  ·cases hFr
  ·rename_i c hb
   rw [cond_eq_ite] at hFr
   split at hFr
   ·rename_i hlen
    have hlen:vs.length≤fn.ntmps:=Nat.le_of_ble_eq_true hlen
    split at hFr
    ·cases hFr
    ·rename_i e s mk hne hr
     split at hFr
     ·cases hFr
     ·rename_i l hres
      simp only [Option.some.injEq] at hFr
      subst hFr
      refine spec_of_holdM (rs:=fn.results.toList) hk1 hb O (by simp) (by rw [hl.length]; exact hlen) fun fr=>?_
      have hx:=execO_ok (w0:=w0) (n:=fn.ntmps) (fr:=fr) (X:=0) (ds:=[]) (g:=argE 0 us) hm hT hF hS 1000 c _ false hr (Val.refl V) ⟨args_RE hl,hH⟩ rfl ⟨rfl,rfl⟩
      rw [jX] at hx
      refine wZ ?_ hx
      rintro ds1 ex g1 L1 ⟨rfl,_,V1,h1',X1,hle,hm,rfl,hs1⟩
      obtain ⟨us2,r1,r2⟩:=resA_ok (P:=P) (w0:=w0) (fr:=fr) hT hs1.env hs1.heap hres
      have key:retM P w0 fn.results.toList fr (fun u h'=>∃ V',V≤V'∧R V' (oneA l) u∧RH P V' s.H s.nx h') ds1 .ret g1 (X1+(h1'+fr)):=by
       cases mk with
       | false =>
        obtain ⟨rfl,rfl⟩:=hm
        rw [jX]
        exact .inl ⟨rfl,us2,h1',0,r1,⟨V1,hle,oneA_ok r2,hs1.heap⟩,(zW _).symm⟩
       | true =>
        obtain ⟨D,rfl,rfl⟩:=hm
        exact .inr ⟨D,_,rfl,rfl,us2,h1',0,r1,⟨V1,hle,oneA_ok r2,hs1.heap⟩,(zW _).symm⟩
      cases e with
      | normal=>exact key
      | ret=>exact key
      | exit k=>exact absurd O (hne k)
    ·cases hFr
   ·cases hFr
end
end
end Ab
namespace Ab
noncomputable section
mutual
def eqA :AV→AV→Bool
 | .b x,.b y=>x==y
 | .i k u,.i k' w=>and (decide (k=k')) (Nat.beq u w)
 | .s l n,.s l' n'=>and (Nat.beq l l') (Nat.beq n n')
 | .p a b,.p c d=>and (Nat.beq a c) (Nat.beq b d)
 | .np,.np=>true
 | .sl a b c d e,.sl a' b' c' d' e'=>and (and (Nat.beq a a') (Nat.beq b b')) (and (and (Nat.beq c c') (Nat.beq d d')) (e==e'))
 | .es,.es=>true
 | .ns,.ns=>true
 | .nf,.nf=>true
 | .nm,.nm=>true
 | .ni,.ni=>true
 | .o,.o=>true
 | .m a,.m b=>Nat.beq a b
 | .it t a,.it t' b=>and (Nat.beq t t') (eqA a b)
 | .ag l,.ag l'=>eqAL l l'
 | .tu l,.tu l'=>eqAL l l'
 | .f k a b,.f k' a' b'=>and (Nat.beq k k') (and (eqAL a a') (eqAL b b'))
 | _,_=>false
def eqAL :List AV→List AV→Bool
 | [],[]=>true
 | a::l,b::m=>and (eqA a b) (eqAL l m)
 | _,_=>false
end
mutual
theorem eqA_eq :∀ (a b:AV),eqA a b=true→a=b
 | .b x,b,h=>by
  cases b with
  | b y=>simp only [eqA,beq_iff_eq] at h; rw [h]
  | _=>simp only [eqA,Bool.false_eq_true] at h
 | .i k u,b,h=>by cases b<;>simp only [eqA,Bool.false_eq_true,Bool.and_eq_true,decide_eq_true_eq,Nat.beq_eq] at h; rw [h.1,h.2]
 | .s k u,b,h=>by cases b<;>simp only [eqA,Bool.false_eq_true,Bool.and_eq_true,Nat.beq_eq] at h; rw [h.1,h.2]
 | .p k u,b,h=>by cases b<;>simp only [eqA,Bool.false_eq_true,Bool.and_eq_true,Nat.beq_eq] at h; rw [h.1,h.2]
 | .np,b,h=>by cases b<;>simp only [eqA,Bool.false_eq_true] at h; rfl
 | .sl a1 a2 a3 a4 a5,b,h=>by
  cases b<;>simp only [eqA,Bool.false_eq_true,Bool.and_eq_true,Nat.beq_eq,beq_iff_eq] at h
  obtain ⟨⟨rfl,rfl⟩,⟨rfl,rfl⟩,rfl⟩:=h; rfl
 | .es,b,h=>by cases b<;>simp only [eqA,Bool.false_eq_true] at h; rfl
 | .ns,b,h=>by cases b<;>simp only [eqA,Bool.false_eq_true] at h; rfl
 | .nf,b,h=>by cases b<;>simp only [eqA,Bool.false_eq_true] at h; rfl
 | .nm,b,h=>by cases b<;>simp only [eqA,Bool.false_eq_true] at h; rfl
 | .ni,b,h=>by cases b<;>simp only [eqA,Bool.false_eq_true] at h; rfl
 | .o,b,h=>by cases b<;>simp only [eqA,Bool.false_eq_true] at h; rfl
 | .m a,b,h=>by cases b<;>simp only [eqA,Bool.false_eq_true,Nat.beq_eq] at h; rw [h]
 | .y a,b,h=>by cases b<;>simp only [eqA,Bool.false_eq_true] at h
 | .it t a,b,h=>by
  cases b<;>simp only [eqA,Bool.false_eq_true,Bool.and_eq_true,Nat.beq_eq] at h
  rw [h.1,eqA_eq a _ h.2]
 | .ag l,b,h=>by cases b<;>simp only [eqA,Bool.false_eq_true] at h; rw [eqAL_eq l _ h]
 | .tu l,b,h=>by cases b<;>simp only [eqA,Bool.false_eq_true] at h; rw [eqAL_eq l _ h]
 | .f k l m,b,h=>by
  cases b<;>simp only [eqA,Bool.false_eq_true,Bool.and_eq_true,Nat.beq_eq] at h
  rw [h.1,eqAL_eq l _ h.2.1,eqAL_eq m _ h.2.2]
theorem eqAL_eq :∀ (l m:List AV),eqAL l m=true→l=m
 | [],m,h=>by cases m<;>simp only [eqAL,Bool.false_eq_true] at h; rfl
 | a::l,m,h=>by
  cases m<;>simp only [eqAL,Bool.false_eq_true,Bool.and_eq_true] at h
  rw [eqA_eq a _ h.1,eqAL_eq l _ h.2]
end
def subO :Option AV→Option AV→Bool
 | none,_=>true
 | some a,some b=>eqA a b
 | some _,none=>false
def allN (p:Nat→Bool):Nat→Bool
 | 0=>true
 | n+1=>and (p n) (allN p n)
theorem allN_ok {p:Nat→Bool}:∀ {n:Nat},allN p n=true→∀ k,k<n→p k=true
 | 0,_,k,h=>absurd h (Nat.not_lt_zero k)
 | n+1,h,k,hk=>by
  simp only [allN,Bool.and_eq_true] at h
  by_cases e:k=n
  ·subst e; exact h.1
  ·exact allN_ok h.2 k (by omega)
def subC (n:Nat):CT→CT→Bool
 | .pk w,.pk w'=>or (Nat.beq (Nat.shiftRight w 256) (Nat.shiftRight w' 256)) (allN (fun k=>subO ((CT.pk w).get k) ((CT.pk w').get k)) n)
 | .li l,.li l'=>eqAL l l'
 | s,s'=>allN (fun k=>subO (s.get k) (s'.get k)) n
theorem subC_ok {n:Nat} {s s':CT} (h:subC n s s'=true):∀ k v,k<n→s.get k=some v→s'.get k=some v:=by
 have gen:allN (fun k=>subO (s.get k) (s'.get k)) n=true→∀ k v,k<n→s.get k=some v→s'.get k=some v:=fun h k v hk hv=>by
  have:=allN_ok h k hk
  rw [hv] at this
  cases hv':s'.get k with
  | none=>rw [hv'] at this; cases this
  | some u=>rw [hv'] at this; rw [eqA_eq _ _ this]
 unfold subC at h
 split at h
 ·rename_i w w'
  rw [Bool.or_eq_true] at h
  rcases h with h|h
  ·rw [Nat.beq_eq] at h
   have h:w >>> 256=w' >>> 256:=h
   intro k v _ hv
   have e:yT w (yG k)=yT w' (yG k):=by
    have e2:yG k=256+128*k:=by first|rfl|(unfold yG; show _=_; omega)|(simp [yG]; omega)
    rw [slot_eq,slot_eq,e2,Nat.shiftRight_add,Nat.shiftRight_add,h]
   have hv:dec (yT w (yG k))=some v:=hv
   show dec (yT w' (yG k))=some v
   rw [← e]; exact hv
  ·exact gen h
 ·have h:=eqAL_eq _ _ h
  subst h; exact fun k v _ h=>h
 ·exact gen h
def eqM :List (AV × AV × Nat)→List (AV × AV × Nat)→Bool
 | [],[]=>true
 | (a,b,n)::l,(a',b',n')::l'=>and (and (eqA a a') (eqA b b')) (and (Nat.beq n n') (eqM l l'))
 | _,_=>false
theorem eqM_eq :∀ {l m:List (AV × AV × Nat)},eqM l m=true→l=m
 | [],m,h=>by cases m<;>simp only [eqM,Bool.false_eq_true] at h; rfl
 | (a,b,n)::l,m,h=>by
  cases m with
  | nil=>simp only [eqM,Bool.false_eq_true] at h
  | cons p m =>
   obtain ⟨a',b',n'⟩:=p
   simp only [eqM,Bool.and_eq_true,Nat.beq_eq] at h
   obtain ⟨⟨h1,h2⟩,h3,h4⟩:=h
   rw [eqA_eq _ _ h1,eqA_eq _ _ h2,h3,eqM_eq h4]
def subB :AO→AO→Bool
 | .c e n kn s,.c e' n' kn' s'=>and (and (Nat.beq e e') (Nat.beq n n')) (and (kn==kn') (subC n s s'))
 | .mp es c,.mp es' c'=>and (Nat.beq c c') (eqM es es')
 | .si a b c,.si a' b' c'=>and (Nat.beq a a') (and (Nat.beq b b') (Nat.beq c c'))
 | _,_=>false
theorem subB_ok {P:Program} {V0 V:Val} {C C0:Nat} {o o':AO} {ob ob0:Obj} (h:subB o o'=true) (h0:RO P V0 C0 o ob0) (hO:RO P V C o' ob):RO P V C o ob:=by
 unfold subB at h
 split at h
 ·simp only [Bool.and_eq_true,Nat.beq_eq,beq_iff_eq] at h
  obtain ⟨⟨rfl,rfl⟩,rfl,h4⟩:=h
  obtain ⟨_,c,h1,h11,h2,h3,h3',h5⟩:=hO
  exact ⟨h0.1,c,h1,h11,h2,h3,h3',fun k v hk hv=>h5 k v hk (subC_ok h4 k v hk hv)⟩
 ·simp only [Bool.and_eq_true,Nat.beq_eq] at h
  obtain ⟨rfl,h2⟩:=h
  rw [eqM_eq h2]; exact hO
 ·simp only [Bool.and_eq_true,Nat.beq_eq] at h
  obtain ⟨rfl,rfl,rfl⟩:=h
  exact hO
 ·cases h
def subAt (H H':T AO) (id:Nat):Bool:=match H.get id with
 | none=>true
 | some o=>match H'.get id with
  | none=>false
  | some o'=>subB o o'
def subH (H H':T AO) (nx:Nat):Bool:=allN (subAt H H') nx
theorem RH.back {P:Program} {V V':Val} {H H':T AO} {nx nx' m:Nat} {h h':Hp} (h0:RH P V H nx h) (h1:RH P V' H' nx' h') (hV:V≤V') (hs:subH H H' nx=true) (hm:nx'≤m):RH P V' H m h':=by
 have key:∀ id o,H.get id=some o→∃ b C,V id=some (b,C)∧V' id=some (b,C)∧∃ o',H'.get id=some o'∧∃ ob Rr,h'=pt b ob+Rr∧RO P V' C o ob:=fun id o ho=>by
  obtain ⟨b,C,ob0,R0,k1,k2,k3⟩:=h0.has id o ho
  have hlt:id<nx:=by
   by_cases hlt:id<nx
   ·exact hlt
   ·have:=h0.fresh id (by omega); rw [k1] at this; cases this
  have hs:=allN_ok hs id hlt
  unfold subAt at hs
  rw [ho] at hs
  cases ho':H'.get id with
  | none=>rw [ho'] at hs; cases hs
  | some o' =>
   rw [ho'] at hs
   obtain ⟨b',C',ob,Rr,k4,k5,k6⟩:=h1.has id o' ho'
   have k7:=hV id _ k1
   rw [k7] at k4
   simp only [Option.some.injEq,Prod.mk.injEq] at k4
   obtain ⟨rfl,rfl⟩:=k4
   exact ⟨b,C,k1,k7,o',rfl,ob,Rr,k5,subB_ok hs k3 k6⟩
 refine ⟨fun id hid=>h1.fresh id (by omega),fun id o ho=>?_,fun id id' o o' b C C' ho ho' hb hb'=>?_⟩
 ·obtain ⟨b,C,_,k2,_,_,ob,Rr,k5,k6⟩:=key id o ho
  exact ⟨b,C,ob,Rr,k2,k5,k6⟩
 ·obtain ⟨_,_,_,_,o1,g1,_⟩:=key id o ho
  obtain ⟨_,_,_,_,o2,g2,_⟩:=key id' o' ho'
  exact h1.inj id id' o1 o2 b C C' g1 g2 hb hb'
mutual
def kidV :AV→List Nat→List Nat
 | .p a _,s=>a::s
 | .sl a _ _ _ _,s=>a::s
 | .m a,s=>a::s
 | .f _ l m,s=>kidL l (kidL m s)
 | .ag l,s=>kidL l s
 | .tu l,s=>kidL l s
 | .it _ a,s=>kidV a s
 | _,s=>s
def kidL :List AV→List Nat→List Nat
 | [],s=>s
 | a::l,s=>kidV a (kidL l s)
end
def kidC (c:CT):Nat→Nat→List Nat→List Nat
 | 0,_,s=>s
 | n+1,k,s=>(match c.get k with|none=>kidC c n (Nat.succ k) s|some v=>kidV v (kidC c n (Nat.succ k) s))
def kidM :List (AV × AV × Nat)→List Nat→List Nat
 | [],s=>s
 | (a,b,_)::l,s=>kidV a (kidV b (kidM l s))
def kidO (o:AO) (l:List Nat):List Nat:=match o with
 | .c e n _ s=>bif Nat.beq e 5 then l else kidC s n 0 l
 | .mp es _=>kidM es l
 | _=>l
def reach (H:T AO):Nat→List Nat→T AO→List Nat→T AO × List Nat
 | 0,_,A,ids=>(A,ids)
 | f+1,todo,A,ids=>match todo with
  | []=>(A,ids)
  | x::l=>match A.get x with
   | some _=>reach H f l A ids
   | none=>match H.get x with
    | none=>reach H f l A ids
    | some o=>reach H f (kidO o l) (A.put o x) (x::ids)
structure Part (H A:T AO) (ids:List Nat):Prop where
 get:∀ id o,A.get id=some o→H.get id=some o∧id∈ids
 all:∀ id o,H.get id=some o→id∈ids→A.get id=some o
theorem reach_part {H:T AO}:∀ (f:Nat) (todo:List Nat) (A:T AO) (ids:List Nat) (r:T AO × List Nat),Part H A ids→reach H f todo A ids=r→Part H r.1 r.2
 | 0,todo,A,ids,r,h,hr=>by rw [← hr]; exact h
 | f+1,todo,A,ids,r,h,hr=>by
  unfold reach at hr
  split at hr
  ·rw [← hr]; exact h
  ·rename_i x l
   split at hr
   ·exact reach_part f _ _ _ _ h hr
   ·split at hr
    ·exact reach_part f _ _ _ _ h hr
    ·rename_i o ho
     refine reach_part f _ _ _ _ ⟨fun id o' hg=>?_,fun id o' hg hm=>?_⟩ hr
     ·rw [T.get_put] at hg
      split at hg
      ·rename_i e; subst e
       simp only [Option.some.injEq] at hg; subst hg
       exact ⟨ho,List.mem_cons_self⟩
      ·exact ⟨(h.get _ _ hg).1,List.mem_cons_of_mem _ (h.get _ _ hg).2⟩
     ·rw [T.get_put]
      split
      ·rename_i e; subst e; rw [← ho,hg]
      ·rename_i e
       rcases List.mem_cons.1 hm with hm|hm
       ·exact absurd hm e
       ·exact h.all _ _ hg hm
theorem Part.nil (H:T AO):Part H .e []:=⟨fun id o h=>by (rw [T.get_e] at h; cases h),fun id o _ h=>by (cases h)⟩
theorem RH.split {P:Program} {V:Val} {H:T AO} {nx:Nat} {h:Hp} (hr:RH P V H nx h):∀ (ids:List Nat),∃ hL hr,h=hL+hr ∧
  (∀ id o,H.get id=some o→id∈ids→∃ b C ob Rr,V id=some (b,C)∧hL=pt b ob+Rr∧RO P V C o ob) ∧
  (∀ id o,H.get id=some o→id∉ids→∃ b C ob Rr,V id=some (b,C)∧hr=pt b ob+Rr∧RO P V C o ob)
 | []=>⟨0,h,(jX h).symm,fun id o _ hm=>by (cases hm),fun id o ho _=>hr.has id o ho⟩
 | x::ids=>by
  obtain ⟨hL,h2,e,k1,k2⟩:=RH.split hr ids
  by_cases hx:x∈ids
  ·refine ⟨hL,h2,e,fun id o ho hm=>?_,fun id o ho hm=>k2 id o ho (fun h=>hm (List.mem_cons_of_mem _ h))⟩
   rcases List.mem_cons.1 hm with rfl|hm
   ·exact k1 _ o ho hx
   ·exact k1 _ o ho hm
  ·cases hg:H.get x with
   | none =>
    refine ⟨hL,h2,e,fun id o ho hm=>?_,fun id o ho hm=>k2 id o ho (fun h=>hm (List.mem_cons_of_mem _ h))⟩
    rcases List.mem_cons.1 hm with rfl|hm
    ·rw [hg] at ho; cases ho
    ·exact k1 _ o ho hm
   | some o0 =>
    obtain ⟨b0,C0,ob0,R0,j1,j2,j3⟩:=k2 x o0 hg hx
    refine ⟨pt b0 ob0+hL,R0,by rw [e,j2]; ac_rfl,fun id o ho hm=>?_,fun id o ho hm=>?_⟩
    ·by_cases hid:id=x
     ·subst hid
      rw [hg] at ho
      simp only [Option.some.injEq] at ho; subst ho
      exact ⟨b0,C0,ob0,hL,j1,rfl,j3⟩
     ·rcases List.mem_cons.1 hm with hm|hm
      ·exact absurd hm hid
      ·obtain ⟨b,C,ob,R,i1,i2,i3⟩:=k1 id o ho hm
       exact ⟨b,C,ob,pt b0 ob0+R,i1,by rw [i2]; ac_rfl,i3⟩
    ·have hid:id≠x:=fun h=>hm (by rw [h]; exact List.mem_cons_self)
     obtain ⟨b,C,ob,R,i1,i2,i3⟩:=k2 id o ho (fun h=>hm (List.mem_cons_of_mem _ h))
     have hb:b0≠b:=fun e2=>by subst e2; exact hid (hr.inj _ _ _ _ _ _ _ ho hg i1 j1)
     obtain ⟨R3,h6,_⟩:=hp_other (j2.symm.trans i2) hb
     exact ⟨b,C,ob,R3,i1,h6,i3⟩
def subJ (H H':T AO):List Nat→Bool
 | []=>true
 | x::l=>and (subAt H H' x) (subJ H H' l)
theorem subJ_ok {H H':T AO}:∀ {l:List Nat},subJ H H' l=true→∀ id∈l,subAt H H' id=true
 | [],_,id,hm=>by cases hm
 | x::l,h,id,hm=>by
  rw [subJ,Bool.and_eq_true] at h
  rcases List.mem_cons.1 hm with rfl|hm
  ·exact h.1
  ·exact subJ_ok h.2 id hm
theorem RH.join {P:Program} {V V':Val} {H A H':T AO} {ids:List Nat} {nx nx' m:Nat} {h h2 h':Hp} (h0:RH P V H nx h) (hp:Part H A ids)
  (k2:∀ id o,H.get id=some o→id∉ids→∃ b C ob Rr,V id=some (b,C)∧h2=pt b ob+Rr∧RO P V C o ob)
  (h1:RH P V' H' nx' h') (hV:V≤V') (hs:subJ A H' ids=true) (hm:nx'≤m):RH P V' H m (h'+h2):=by
 refine ⟨fun id hid=>h1.fresh id (by omega),fun id o ho=>?_,fun id id' o o' b C C' ho ho' hb hb'=>?_⟩
 ·by_cases hi:id∈ids
  ·obtain ⟨b,C,ob0,R0,i1,i2,i3⟩:=h0.has id o ho
   have hs:=subJ_ok hs id hi
   unfold subAt at hs
   rw [hp.all id o ho hi] at hs
   cases ho':H'.get id with
   | none=>rw [ho'] at hs; cases hs
   | some o' =>
    rw [ho'] at hs
    obtain ⟨b',C',ob,Rr,k4,k5,k6⟩:=h1.has id o' ho'
    have k7:=hV id _ i1
    rw [k7] at k4
    simp only [Option.some.injEq,Prod.mk.injEq] at k4
    obtain ⟨rfl,rfl⟩:=k4
    exact ⟨b,C,ob,Rr+h2,k7,by rw [k5]; ac_rfl,subB_ok hs i3 k6⟩
  ·obtain ⟨b,C,ob,R,i1,i2,i3⟩:=k2 id o ho hi
   exact ⟨b,C,ob,h'+R,hV _ _ i1,by rw [i2]; ac_rfl,i3.mono hV⟩
 ·obtain ⟨b1,C1,_,_,i1,_,_⟩:=h0.has id o ho
  obtain ⟨b2,C2,_,_,i2,_,_⟩:=h0.has id' o' ho'
  have e1:=hV _ _ i1
  have e2:=hV _ _ i2
  rw [hb] at e1
  rw [hb'] at e2
  simp only [Option.some.injEq,Prod.mk.injEq] at e1 e2
  exact h0.inj id id' o o' b C1 C2 ho ho' (by rw [i1,e1.1]) (by rw [i2,e2.1])
theorem RH.part {P:Program} {V:Val} {H A:T AO} {ids:List Nat} {nx:Nat} {h hL:Hp} (h0:RH P V H nx h) (hp:Part H A ids)
  (k1:∀ id o,H.get id=some o→id∈ids→∃ b C ob Rr,V id=some (b,C)∧hL=pt b ob+Rr∧RO P V C o ob):RH P V A nx hL where
 fresh:=h0.fresh
 has:=fun id o ho=>k1 id o (hp.get _ _ ho).1 (hp.get _ _ ho).2
 inj:=fun id id' o o' b C C' ho ho' hb hb'=>h0.inj id id' o o' b C C' (hp.get _ _ ho).1 (hp.get _ _ ho').1 hb hb'
structure IT where
 rid:Nat
 mid:Nat
 since:Nat
 c0:Nat
 sn:List Nat
abbrev Oc :=Ex × S × Option IT
def bindM {α β:Type} (k:α→Option (List β)):List α→Option (List β)
 | []=>some []
 | x::l=>match k x with
  | none=>none
  | some a=>match bindM k l with
   | none=>none
   | some b=>some (a++b)
theorem bindM_mem {α β:Type} {k:α→Option (List β)}:∀ {l:List α} {r:List β},bindM k l=some r→∀ x∈l,∃ a,k x=some a∧∀ y∈a,y∈r
 | [],_,_,x,hx=>by cases hx
 | z::l,r,h,x,hx=>by
  simp only [bindM] at h
  split at h
  ·cases h
  ·rename_i a ha
   split at h
   ·cases h
   ·rename_i b hb
    simp only [Option.some.injEq] at h; subst h
    rcases List.mem_cons.1 hx with rfl|hx
    ·exact ⟨a,ha,fun y hy=>List.mem_append_left _ hy⟩
    ·obtain ⟨a',h1,h2⟩:=bindM_mem hb x hx
     exact ⟨a',h1,fun y hy=>List.mem_append_right _ (h2 y hy)⟩
def inN (u:Nat):List Nat→Bool
 | []=>false
 | x::l=>or (Nat.beq x u) (inN u l)
theorem inN_iff {u:Nat}:∀ {l:List Nat},inN u l=true↔u∈l
 | []=>by simp [inN]
 | x::l=>by simp only [inN,Bool.or_eq_true,Nat.beq_eq,List.mem_cons,inN_iff (l:=l)]; constructor<;>rintro (h|h)<;>simp [h]
def leftM (sn:List Nat):List (AV × AV × Nat)→List (AV × AV × Nat)
 | []=>[]
 | (k,v,n)::l=>bif inN n sn then leftM sn l else (k,v,n)::leftM sn l
def oldM (since:Nat):List (AV × AV × Nat)→Bool
 | []=>true
 | (_,_,n)::l=>and (Nat.blt n since) (oldM since l)
def findM (n:Nat):List (AV × AV × Nat)→Option (AV × AV)
 | []=>none
 | (k,v,m)::l=>bif Nat.beq m n then some (k,v) else findM n l
def diffM :List (AV × AV × Nat)→List Nat→Bool
 | [],_=>true
 | (_,_,n)::l,seen=>and (not (inN n seen)) (diffM l (n::seen))
section
variable (TT:Nat→Option TI) (FT:Nat→Option Func) (rec:Tk→Rs)
def runM (n:Nat) (ops:Array Oper):List Oper→S→Option IT→Option (List (S × Option IT))
 | [],s,it=>some [(s,it)]
 | o::rest,s,it=>bif uI n o.dst then (match wA ops s.E o.guard with
  | none=>none
  | some false=>runM n ops rest ⟨wH s.E o.dst wC,s.H,s.nx,s.D⟩ it
  | some true=>match o.op with
   | .range t x=>(match it with
    | some _=>none
    | none=>match jF TT t with
     | some (.map _ _)=>(match yV s.E x with
      | some (.m mid)=>(match s.H.get mid with
       | some (.mp es clock)=>runM n ops rest ⟨wH s.E o.dst (.p s.nx 0),s.H,Nat.succ s.nx,s.D⟩ (some ⟨s.nx,mid,clock,clock,[]⟩)
       | _=>none)
      | _=>none)
     | _=>none)
   | .next x false=>(match it with
    | none=>none
    | some i=>match yV s.E x with
     | some (.p rid 0)=>bif Nat.beq rid i.rid then (match s.H.get i.mid with
      | some (.mp es clock)=>bif and (oldM i.since es) (and (Nat.ble i.since clock) (Nat.ble i.since i.c0)) then (match leftM i.sn es with
       | []=>runM n ops rest ⟨wH s.E o.dst (.tu [.b false]),s.H,s.nx,s.D⟩ it
       | e::l=>bindM (fun e=>runM n ops rest ⟨wH s.E o.dst (.tu [.b true,e.1,e.2.1]),s.H,s.nx,s.D⟩ (some ⟨i.rid,i.mid,i.since,clock,e.2.2::i.sn⟩)) (e::l)) else none
      | _=>none) else none
     | _=>none)
   | .entry x=>(match it with
    | none=>none
    | some i=>match yV s.E x with
     | some (.p rid 0)=>bif Nat.beq rid i.rid then (match i.sn with
      | []=>none
      | m::sn=>match s.H.get i.mid with
       | some (.mp es clock)=>bif and (Nat.beq clock i.c0) (diffM es []) then (match findM m es with
        | none=>none
        | some (k,v)=>runM n ops rest ⟨wH s.E o.dst (.tu [k,v]),s.H,s.nx,s.D⟩ it) else none
       | _=>none) else none
     | _=>none)
   | op=>match yU TT s.E s.H s.nx op with
    | .val (v,H,nx)=>runM n ops rest ⟨wH s.E o.dst v,H,nx,s.D⟩ it
    | .call k vs=>(match rec (.fn k vs s.H s.nx) with
     | .val v H nx=>runM n ops rest ⟨wH s.E o.dst v,H,nx,s.D⟩ it
     | _=>none)
    | _=>none) else none
def mrOp :Op→Bool
 | .range _ _=>true
 | .next _ false=>true
 | .entry _=>true
 | _=>false
def mrL :List Oper→Bool
 | []=>false
 | o::l=>or (mrOp o.op) (mrL l)
def hasM :Code→Bool
 | .region _ ops _=>mrL ops.toList
 | .seq a b=>or (hasM a) (hasM b)
 | .cond _ a b=>or (hasM a) (hasM b)
 | .block _ b=>hasM b
 | .loop b=>hasM b
 | .scope b=>hasM b
 | _=>false
def isNilD' :List (Nat × List AV × List AV)→Bool
 | []=>true
 | _=>false
def execM :Nat→Nat→Code→S→Option IT→Option (List Oc)
 | 0,_,_,_,_=>none
 | f+1,n,c,s,it=>bif hasM c then (match c with
  | .region _ ops false=>(match runM TT rec n ops ops.toList s it with
   | none=>none
   | some l=>some (l.map fun p=>(.normal,p.1,p.2)))
  | .seq a b=>(match execM f n a s it with
   | none=>none
   | some l=>bindM (fun p=>match p.1 with
    | .normal=>execM f n b p.2.1 p.2.2
    | _=>some [p]) l)
  | .cond x a b=>(match yV s.E x with
   | some (.b true)=>execM f n a s it
   | some (.b false)=>execM f n b s it
   | _=>none)
  | .block id b=>(match execM f n b s it with
   | none=>none
   | some l=>some (l.map fun p=>match p.1 with
    | .exit k=>bif Nat.beq k id then (.normal,p.2.1,p.2.2) else p
    | _=>p))
  | .loop b=>(match execM f n b s it with
   | none=>none
   | some l=>bindM (fun p=>match p.1 with
    | .normal=>execM f n (.loop b) p.2.1 p.2.2
    | _=>some [p]) l)
  | _=>none) else (match rec (.code n c s) with
   | .ok e s'=>bif isNilD' s'.D then some [(e,s',it)] else none
   | _=>none)
def endM (rs:List ResultVar) (x:Bool) (H:T AO) (ids:List Nat) (m:Nat):List Oc→Bool
 | []=>true
 | p::l=>and (match p.1 with
  | .exit _=>false
  | _=>match resA TT p.2.1.E p.2.1.H rs with
   | some [.b y]=>and (x==y) (and (Nat.ble p.2.1.nx m) (subJ H p.2.1.H ids))
   | _=>false) (endM rs x H ids m l)
def maxM :List Oc→Nat→Nat
 | [],m=>m
 | p::l,m=>maxM l (bif Nat.ble p.2.1.nx m then m else p.2.1.nx)
def F_mr (k:Nat):jJ:=fun vs H nx=>match FT k with
 | none=>none
 | some fn=>match fn.body with
  | none=>none
  | some c=>bif Nat.ble vs.length fn.ntmps then (match reach H 100000 (kidL vs []) .e [] with
   | (A,ids)=>match execM TT rec 1000 fn.ntmps c ⟨uJ vs .e 0,A,nx,[]⟩ none with
    | none=>none
    | some []=>none
    | some (p::l)=>match resA TT p.2.1.E p.2.1.H fn.results.toList with
     | some [.b x]=>(fun m=>bif endM TT fn.results.toList x A ids m (p::l) then some (.b x,H,m) else none) (maxM (p::l) nx)
     | _=>none) else none
end
def RIt (V:Val):Option IT→Hp→Prop
 | none,X=>X=0
 | some i,X=>∃ r b C,V i.rid=some (r,0)∧V i.mid=some (b,C)∧X=pt r (.mapIter (some b) i.since i.sn.reverse.toArray i.c0)
theorem RIt.mono {V V':Val} (h:V≤V'):∀ {it:Option IT} {X:Hp},RIt V it X→RIt V' it X
 | none,_,hr=>hr
 | some i,_,hr=>by
  obtain ⟨r,b,C,h1,h2,h3⟩:=hr
  exact ⟨r,b,C,h _ _ h1,h _ _ h2,h3⟩
section
variable {P:Program} {TT:Nat→Option TI} {FT:Nat→Option Func} {rec:Tk→Rs} {w0:World} {n:Nat}
def PL (P:Program) (V:Val) (fr:Hp) (l:List (S × Option IT)):vA:=fun ds ex g L=>ex=.normal∧ds=[]∧∃ p∈l,∃ V' h' X,V≤V'∧L=h'+(X+fr)∧RS P V' p.1 g h'∧p.1.D=[]∧RIt V' p.2 X
def PM (P:Program) (V:Val) (fr:Hp) (l:List Oc):vA:=fun ds ex g L=>ds=[]∧∃ p∈l,ex=toX p.1∧∃ V' h' X,V≤V'∧L=h'+(X+fr)∧RS P V' p.2.1 g h'∧p.2.1.D=[]∧RIt V' p.2.2 X
theorem PL.sub {V:Val} {fr:Hp} {l l':List (S × Option IT)} (h:∀ p∈l,p∈l') {ds:List Deferred} {ex:Exit} {g:Env} {L:Hp} (hp:PL P V fr l ds ex g L):PL P V fr l' ds ex g L:=by
 obtain ⟨h1,h2,p,h3,h4⟩:=hp
 exact ⟨h1,h2,p,h p h3,h4⟩
theorem PM.sub {V:Val} {fr:Hp} {l l':List Oc} (h:∀ p∈l,p∈l') {ds:List Deferred} {ex:Exit} {g:Env} {L:Hp} (hp:PM P V fr l ds ex g L):PM P V fr l' ds ex g L:=by
 obtain ⟨h2,p,h3,h4⟩:=hp
 exact ⟨h2,p,h p h3,h4⟩
theorem oldM_ok {since:Nat} {V:Val}:∀ {l:List (AV × AV × Nat)} {es:List MapEntry},oldM since l=true→RM V l es→∀ x∈es,x.born<since
 | [],es,_,hr,x,hx=>by have:es=[]:=hr; subst this; cases hx
 | (k,v,m)::l,es,h,hr,x,hx=>by
  obtain ⟨key,val,es',rfl,_,_,h3⟩:=hr
  simp only [oldM,Bool.and_eq_true,kU,decide_eq_true_eq] at h
  rcases List.mem_cons.1 hx with rfl|hx
  ·exact h.1
  ·exact oldM_ok h.2 h3 x hx
theorem leftM_ok {sn:List Nat} {V:Val}:∀ {l:List (AV × AV × Nat)} {es:List MapEntry},RM V l es→∀ x∈es,x.born∉sn→∃ e∈leftM sn l,R V e.1 x.key∧R V e.2.1 x.val∧e.2.2=x.born
 | [],es,hr,x,hx,_=>by have:es=[]:=hr; subst this; cases hx
 | (k,v,m)::l,es,hr,x,hx,hn=>by
  obtain ⟨key,val,es',rfl,h1,h2,h3⟩:=hr
  simp only [leftM,cond_eq_ite]
  rcases List.mem_cons.1 hx with rfl|hx
  ·rw [if_neg (fun h=>hn (inN_iff.1 h))]
   exact ⟨(k,v,m),by simp,h1,h2,rfl⟩
  ·obtain ⟨e,he,h4⟩:=leftM_ok h3 x hx hn
   split
   ·exact ⟨e,he,h4⟩
   ·exact ⟨e,by simp [he],h4⟩
theorem leftM_none {sn:List Nat} {V:Val}:∀ {l:List (AV × AV × Nat)} {es:List MapEntry},RM V l es→leftM sn l≠[]→∃ x∈es,x.born∉sn
 | [],es,hr,h=>absurd O h
 | (k,v,m)::l,es,hr,h=>by
  obtain ⟨key,val,es',rfl,h1,h2,h3⟩:=hr
  simp only [leftM,cond_eq_ite] at h
  split at h
  ·obtain ⟨x,hx,hn⟩:=leftM_none h3 h
   exact ⟨x,by simp [hx],hn⟩
  ·rename_i hc
   exact ⟨_,List.mem_cons_self,fun h=>hc (inN_iff.2 h)⟩
theorem diffM_ok {V:Val}:∀ {l:List (AV × AV × Nat)} {seen:List Nat} {es:List MapEntry},diffM l seen=true→RM V l es→(es.map (·.born)).Nodup∧∀ x∈es,x.born∉seen
 | [],_,es,_,hr=>by have:es=[]:=hr; subst this; simp
 | (k,v,m)::l,seen,es,h,hr=>by
  obtain ⟨key,val,es',rfl,h1,h2,h3⟩:=hr
  simp only [diffM,Bool.and_eq_true,Bool.not_eq_true'] at h
  obtain ⟨h4,h5⟩:=diffM_ok h.2 h3
  refine ⟨?_,fun x hx=>?_⟩
  ·rw [List.map_cons,List.nodup_cons]
   refine ⟨fun hm=>?_,h4⟩
   obtain ⟨y,hy,e⟩:=List.mem_map.1 hm
   exact h5 y hy (by rw [e]; simp)
  ·rcases List.mem_cons.1 hx with rfl|hx
   ·intro hm
    have:=inN_iff.2 hm
    rw [h.1] at this; cases this
   ·exact fun hm=>h5 x hx (by simp [hm])
theorem findM_ok {m:Nat} {V:Val}:∀ {l:List (AV × AV × Nat)} {es:List MapEntry} {k v:AV},findM m l=some (k,v)→RM V l es→∃ x∈es,x.born=m∧R V k x.key∧R V v x.val
 | [],es,k,v,h,hr=>by cases h
 | (k',v',m')::l,es,k,v,h,hr=>by
  obtain ⟨key,val,es',rfl,h1,h2,h3⟩:=hr
  simp only [findM,cond_eq_ite,Nat.beq_eq] at h
  split at h
  ·rename_i e
   simp only [Option.some.injEq,Prod.mk.injEq] at h
   obtain ⟨rfl,rfl⟩:=h
   exact ⟨_,List.mem_cons_self,e,h1,h2⟩
  ·obtain ⟨x,hx,h4⟩:=findM_ok h h3
   exact ⟨x,by simp [hx],h4⟩
theorem runM_ok (hT:TOk P TT) (hS:Snd P rec) {V0:Val} {fr:Hp} {ops:Array Oper}:∀ (rest:List Oper) (s:S) (it:Option IT) (V:Val) (g:Env) (h X:Hp) (l:List (S × Option IT)) (Q:vA),(∀ ds ex g L,PL P V0 fr l ds ex g L→Q ds ex g L)→runM TT rec n ops rest s it=some l→V0≤V→RS P V s g h→s.D=[]→RIt V it X →
  HoldXL P n w0 ops rest Q [] g (h+(X+fr))
 | [],s,it,V,g,h,X,l,Q,hq,hr,hV,hs,hD,hX=>by
  simp only [runM,Option.some.injEq] at hr
  subst hr
  exact X_nil (hq _ _ _ _ ⟨rfl,rfl,(s,it),by simp,V,h,X,hV,rfl,hs,hD,hX⟩)
 | o::rest,s,it,V,g,h,X,l,Q,hq,hr,hV,hs,hD,hX=>by
  simp only [runM,cond_eq_ite] at hr
  split at hr
  ·rename_i hdst
   have hdst:=dst_ok hdst
   split at hr
   ·cases hr
   ·rename_i hw
    have hw:=uL hs.env hw
    exact X_skipOp hw hdst (runM_ok hT hS rest _ it V _ h X l Q hq hr hV ⟨hs.env.put R.und o.dst,hs.heap⟩ hD hX)
   ·rename_i hw
    have hw:=uL hs.env hw
    split at hr
    ·
     rename_i t x hop
     split at hr
     ·cases hr
     ·have hX:X=0:=hX
      subst hX
      split at hr
      ·rename_i kt et hu
       split at hr
       ·rename_i mid hx
        split at hr
        ·rename_i es clock hmp
         obtain ⟨v,h1,h2⟩:=yI hs.env hx
         obtain ⟨b,C,es',Rr,rfl,hVm,hh,hM,hO,hat⟩:=mp_at (w0:=w0) (fr:=fr) hs.heap hmp h2
         rw [jX]
         refine X_eff (op:=.range t x) hop hw hdst (post:=fun u L'=>∃ r,u=.pointer (some ⟨r,0,none⟩)∧L'=pt r (.mapIter (some b) clock #[] clock)+(h+fr)) ?_ ?_
         ·intro o' a w m ho' ha hst
          refine ⟨.pointer (some ⟨w.heap.size,0,none⟩),w.alloc (.mapIter (some b) clock #[] clock),_,.inl ?_,⟨_,rfl,rfl⟩,hst.alloc _⟩
          unfold execOp
          simp only [ho',ha.ev h1,Sem.run_bind,run_range_map w t kt et b es'.toArray clock (yP hT hu) (hat w hst),Result.andThen_ok,Sem.run_pure]
         ·rintro u L' ⟨r,rfl,rfl⟩
          have hle:V≤V.set s.nx r 0:=Val.le_set (hs.heap.fresh s.nx (Nat.le_refl _))
          have:=runM_ok hT hS rest ⟨wH s.E o.dst (.p s.nx 0),s.H,Nat.succ s.nx,s.D⟩ (some ⟨s.nx,mid,clock,clock,[]⟩) (V.set s.nx r 0) (jW g o.dst (.pointer (some ⟨r,0,none⟩))) h (pt r (.mapIter (some b) clock #[] clock)) l Q hq hr (Val.trans hV hle)
           ⟨(hs.env.mono hle).put ptr_ok o.dst,hs.heap.name r 0⟩ hD ⟨r,b,C,Val.set_self _ _ _ _,hle _ _ hVm,rfl⟩
          rw [show pt r (.mapIter (some b) clock #[] clock)+(h+fr)=h+(pt r (.mapIter (some b) clock #[] clock)+fr) by ac_rfl]
          exact this
        ·cases hr
       ·cases hr
      ·cases hr
    ·
     rename_i x hop
     split at hr
     ·cases hr
     ·rename_i i
      split at hr
      ·rename_i rid hx
       split at hr
       ·rename_i hrid
        have hrid:rid=i.rid:=by simpa using hrid
        subst hrid
        split at hr
        ·rename_i es clock hmp
         split at hr
         ·rename_i hc
          simp only [Bool.and_eq_true] at hc
          obtain ⟨hc1,hc2,hc3⟩:=hc
          have hc2:i.since≤clock:=Nat.le_of_ble_eq_true hc2
          have hc3:i.since≤i.c0:=Nat.le_of_ble_eq_true hc3
          obtain ⟨r,b,C,hVr,hVm,rfl⟩:=hX
          obtain ⟨v,h1,h2⟩:=yI hs.env hx
          obtain ⟨r',c',hVr',rfl⟩:=R.mkNil h2
          rw [hVr] at hVr'
          simp only [Option.some.injEq,Prod.mk.injEq] at hVr'
          obtain ⟨rfl,rfl⟩:=hVr'
          obtain ⟨b',C',es',Rr,hmv,hVm',hh,hM,hO,hat⟩:=mp_at (w0:=w0) (fr:=pt r (.mapIter (some b) i.since i.sn.reverse.toArray i.c0)+fr) hs.heap hmp (v:=.map (some b)) (by unfold R; exact ⟨b,C,hVm,rfl⟩)
          rw [hVm] at hVm'
          simp only [Option.some.injEq,Prod.mk.injEq] at hVm'
          obtain ⟨rfl,rfl⟩:=hVm'
          refine X_eff (op:=.next x false) hop hw hdst (post:=fun u L'=>(leftM i.sn es=[]∧u=.tuple #[.bool false]∧L'=h+(pt r (.mapIter (some b) i.since i.sn.reverse.toArray i.c0)+fr)) ∨
           ∃ e∈leftM i.sn es,∃ key val,R V e.1 key∧R V e.2.1 val∧u=.tuple #[.bool true,key,val]∧L'=h+(pt r (.mapIter (some b) i.since (e.2.2::i.sn).reverse.toArray clock)+fr)) ?_ ?_
          ·intro o' a w m ho' ha hst
           have hsw:h+(pt r (.mapIter (some b) i.since i.sn.reverse.toArray i.c0)+fr)=pt r (.mapIter (some b) i.since i.sn.reverse.toArray i.c0)+(h+fr):=by ac_rfl
           have hst2:=hst
           rw [hsw] at hst2
           have hri:=hst2.sat.left.pt.2
           rcases run_next_at (P:=P) w o'.type r b i.since i.c0 i.sn.reverse.toArray es'.toArray clock hri (hat w hst) (by simpa using oldM_ok hc1 hM) hc3 with ⟨hz,hrun⟩|⟨e,he,w1,hw1,hrun⟩
           ·refine ⟨_,w,_,.inl ?_,.inl ⟨?_,rfl,rfl⟩,hst⟩
            ·unfold execOp
             simp only [ho',ha.ev h1,Sem.run_bind,hrun,Result.andThen_ok,Sem.run_pure]
            ·by_cases hl:leftM i.sn es=[]
             ·exact hl
             ·exfalso
              obtain ⟨y,hy,hn⟩:=leftM_none hM hl
              have:y∈(leftOf es'.toArray i.sn.reverse.toArray).toList:=by
               unfold leftOf
               simp [hy,hn]
              have hsz:(leftOf es'.toArray i.sn.reverse.toArray).toList=[]:=by
               rw [Array.eq_empty_of_size_eq_zero hz]
              rw [hsz] at this; cases this
           ·have he2:e∈es'∧e.born∉i.sn:=by
             unfold leftOf at he
             simpa using he
            obtain ⟨e',m1,m2,m3,m4⟩:=leftM_ok hM e he2.1 he2.2
            have hst3:St w0 w1 (pt r (.mapIter (some b) i.since i.sn.reverse.toArray i.c0)+(h+fr)):=by
             rcases hw1 with rfl|rfl
             ·exact hst2
             ·exact hst2.drew
            have hst4:=setMap (o':=.mapIter (some b) i.since (i.sn.reverse.toArray.push e.born) clock) hst3 hst3.sat.left.pt.2
            refine ⟨.tuple #[.bool true,e.key,e.val],ChangeMaps.setBlock w1 r (.mapIter (some b) i.since (i.sn.reverse.toArray.push e.born) clock),h+(pt r (.mapIter (some b) i.since (e'.2.2::i.sn).reverse.toArray clock)+fr),.inl ?_,.inr ⟨e',m1,e.key,e.val,m2,m3,rfl,rfl⟩,?_⟩
            ·unfold execOp
             simp only [ho',ha.ev h1,Sem.run_bind,hrun,Result.andThen_ok,Sem.run_pure]
            ·rw [m4,show h+(pt r (.mapIter (some b) i.since (e.born::i.sn).reverse.toArray clock)+fr)=pt r (.mapIter (some b) i.since (e.born::i.sn).reverse.toArray clock)+(h+fr) by ac_rfl,
              show (e.born::i.sn).reverse.toArray=i.sn.reverse.toArray.push e.born by simp]
             exact hst4
          ·rintro u L' (⟨hl,rfl,rfl⟩|⟨e,he,key,val,hk,hv,rfl,rfl⟩)
           ·rw [hl] at hr
            refine runM_ok hT hS rest _ _ V _ h _ l Q hq hr hV ⟨hs.env.put ?_ o.dst,hs.heap⟩ hD ⟨r,b,C,hVr,hVm,rfl⟩
            show R V (.tu _) _
            unfold R
            exact ⟨[_],RL.mk (by unfold R; rfl) (RL.nil.2 O),rfl⟩
           ·have hr2:bindM (fun e=>runM TT rec n ops rest ⟨wH s.E o.dst (.tu [.b true,e.1,e.2.1]),s.H,s.nx,s.D⟩ (some ⟨i.rid,i.mid,i.since,clock,e.2.2::i.sn⟩)) (leftM i.sn es)=some l:=by
             split at hr
             ·rename_i hl; rw [hl] at he; cases he
             ·rename_i hl; rw [hl]; exact hr
            obtain ⟨l',hl1,hl2⟩:=bindM_mem hr2 e he
            refine runM_ok hT hS rest _ _ V _ h _ l' Q (fun _ _ _ _ hp=>hq _ _ _ _ (PL.sub hl2 hp)) hl1 hV ⟨hs.env.put ?_ o.dst,hs.heap⟩ hD ⟨r,b,C,hVr,hVm,rfl⟩
            show R V (.tu _) _
            unfold R
            exact ⟨[_,_,_],RL.mk (by unfold R; rfl) (RL.mk hk (RL.mk hv (RL.nil.2 O))),rfl⟩
         ·cases hr
        ·cases hr
       ·cases hr
      ·cases hr
    ·
     rename_i x hop
     split at hr
     ·cases hr
     ·rename_i i
      split at hr
      ·rename_i rid hx
       split at hr
       ·rename_i hrid
        have hrid:rid=i.rid:=by simpa using hrid
        subst hrid
        split at hr
        ·cases hr
        ·rename_i m sn hsn
         split at hr
         ·rename_i es clock hmp
          split at hr
          ·rename_i hc
           simp only [Bool.and_eq_true,Nat.beq_eq] at hc
           obtain ⟨rfl,hc2⟩:=hc
           split at hr
           ·cases hr
           ·rename_i k v hfind
            have hX0:=hX
            obtain ⟨r,b,C,hVr,hVm,rfl⟩:=hX
            obtain ⟨v',h1,h2⟩:=yI hs.env hx
            obtain ⟨r',c',hVr',rfl⟩:=R.mkNil h2
            rw [hVr] at hVr'
            simp only [Option.some.injEq,Prod.mk.injEq] at hVr'
            obtain ⟨rfl,rfl⟩:=hVr'
            obtain ⟨b',C',es',Rr,hmv,hVm',hh,hM,hO,hat⟩:=mp_at (w0:=w0) (fr:=pt r (.mapIter (some b) i.since i.sn.reverse.toArray i.c0)+fr) hs.heap hmp (v:=.map (some b)) (by unfold R; exact ⟨b,C,hVm,rfl⟩)
            rw [hVm] at hVm'
            simp only [Option.some.injEq,Prod.mk.injEq] at hVm'
            obtain ⟨rfl,rfl⟩:=hVm'
            obtain ⟨y,hy,hb,hk,hv⟩:=findM_ok hfind hM
            refine X_eff (op:=.entry x) hop hw hdst (post:=fun u L'=>u=.tuple #[y.key,y.val]∧L'=h+(pt r (.mapIter (some b) i.since i.sn.reverse.toArray i.c0)+fr)) ?_ ?_
            ·intro o' a w m' ho' ha hst
             have hsw:h+(pt r (.mapIter (some b) i.since i.sn.reverse.toArray i.c0)+fr)=pt r (.mapIter (some b) i.since i.sn.reverse.toArray i.c0)+(h+fr):=by ac_rfl
             have hst2:=hst
             rw [hsw] at hst2
             have hri:=hst2.sat.left.pt.2
             have hseen:i.sn.reverse.toArray=sn.reverse.toArray.push y.born:=by rw [hsn,hb]; simp
             rw [hseen] at hri
             have hrun:=run_entry_at (P:=P) w r b i.since sn.reverse.toArray es'.toArray i.c0 y hri (hat w hst) (by simpa using hy) (by simpa using (diffM_ok hc2 hM).1)
             refine ⟨_,w,_,.inl ?_,⟨rfl,rfl⟩,hst⟩
             unfold execOp
             simp only [ho',ha.ev h1,Sem.run_bind,hrun,Result.andThen_ok,Sem.run_pure]
            ·rintro u L' ⟨rfl,rfl⟩
             refine runM_ok hT hS rest _ _ V _ h _ l Q hq hr hV ⟨hs.env.put ?_ o.dst,hs.heap⟩ hD hX0
             show R V (.tu _) _
             unfold R
             exact ⟨[_,_],RL.mk hk (RL.mk hv (RL.nil.2 O)),rfl⟩
          ·cases hr
         ·cases hr
       ·cases hr
      ·cases hr
    ·
     split at hr
     ·rename_i v H nx hst
      refine X_eff O hw hdst (stepO_val (w0:=w0) (fr:=X+fr) hT hs.env hs.heap hst) ?_
      rintro u L' ⟨V',h',hle,rfl,hR,hH⟩
      exact runM_ok hT hS rest _ it V' _ h' X l Q hq hr (Val.trans hV hle) ⟨(hs.env.mono hle).put hR o.dst,hH⟩ hD (hX.mono hle)
     ·rename_i k vs hst
      obtain ⟨us,h1,h2⟩:=stepO_call (P:=P) (g:=g) hs.env hst
      split at hr
      ·rename_i v H nx hcall
       obtain ⟨h3,h4⟩:=hS.fn hcall
       refine X_call O hw hdst (h2 h3) (h4 (w0:=w0) h1 hs.heap) O ?_
       rintro u h' ⟨V',hle,hR,hH⟩
       exact runM_ok hT hS rest _ it V' _ h' X l Q hq hr (Val.trans hV hle) ⟨(hs.env.mono hle).put hR o.dst,hH⟩ hD (hX.mono hle)
      ·cases hr
     ·cases hr
  ·cases hr
theorem isNilD'_ok {D:List (Nat × List AV × List AV)} (h:isNilD' D=true):D=[]:=by cases D with|nil=>rfl|cons=>cases h
theorem execM_ok (hT:TOk P TT) (hS:Snd P rec) {V0:Val} {fr:Hp}:∀ (F f:Nat),f<F→∀ (c:Code) (s:S) (it:Option IT) (V:Val) (g:Env) (h X:Hp) (l:List Oc),execM TT rec f n c s it=some l→V0≤V→RS P V s g h→s.D=[]→RIt V it X →
  vD P n w0 c (PM P V0 fr l) [] g (h+(X+fr))
 | 0,f,hf=>absurd hf (Nat.not_lt_zero f)
 | F+1,0,hf=>by intro c s it V g h X l hr; cases hr
 | F+1,f+1,hf=>by
  have ih:=fun f' (h:f'<F)=>execM_ok (V0:=V0) (fr:=fr) hT hS F f' h
  intro c s it V g h X l hr hV hs hD hX
  unfold execM at hr
  rw [cond_eq_ite] at hr
  split at hr
  ·cases c with
   | region id ops draw =>
    cases draw with
    | true=>cases hr
    | false =>
     simp only at hr
     split at hr
     ·cases hr
     ·rename_i l' hl
      simp only [Option.some.injEq] at hr; subst hr
      refine X_region (runM_ok hT hS ops.toList s it V g h X l' _ ?_ hl hV hs hD hX)
      rintro ds ex g' L' ⟨rfl,rfl,p,hp,h'⟩
      exact ⟨rfl,(.normal,p.1,p.2),List.mem_map.2 ⟨p,hp,rfl⟩,rfl,h'⟩
   | seq a b =>
    simp only at hr
    split at hr
    ·cases hr
    ·rename_i l' hl
     refine X_seq (wZ ?_ (ih f (by omega) a s it V g h X l' hl hV hs hD hX))
     rintro ds ex g' L' ⟨rfl,⟨e,s',it'⟩,hp,rfl,V',h',X',hle,rfl,hs',hD',hX'⟩
     obtain ⟨l2,k1,k2⟩:=bindM_mem hr _ hp
     cases e with
     | normal=>exact wZ (fun _ _ _ _=>PM.sub k2) (ih f (by omega) b s' it' V' g' h' X' l2 k1 hle hs' hD' hX')
     | exit k =>
      simp only [Option.some.injEq] at k1; subst k1
      exact ⟨rfl,_,k2 _ (by simp),rfl,V',h',X',hle,rfl,hs',hD',hX'⟩
     | ret =>
      simp only [Option.some.injEq] at k1; subst k1
      exact ⟨rfl,_,k2 _ (by simp),rfl,V',h',X',hle,rfl,hs',hD',hX'⟩
   | cond x a b =>
    simp only at hr
    split at hr
    ·rename_i hx
     obtain ⟨u,h1,h2⟩:=yI hs.env hx
     unfold R at h2; subst h2
     exact X_cond h1 (ih f (by omega) a s it V g h X l hr hV hs hD hX)
    ·rename_i hx
     obtain ⟨u,h1,h2⟩:=yI hs.env hx
     unfold R at h2; subst h2
     exact X_cond h1 (ih f (by omega) b s it V g h X l hr hV hs hD hX)
    ·cases hr
   | block id b =>
    simp only at hr
    split at hr
    ·cases hr
    ·rename_i l' hl
     simp only [Option.some.injEq] at hr; subst hr
     refine X_block (wZ ?_ (ih f (by omega) b s it V g h X l' hl hV hs hD hX))
     rintro ds ex g' L' ⟨rfl,⟨e,s',it'⟩,hp,rfl,V',h',X',hle,rfl,hs',hD',hX'⟩
     cases e with
     | exit k =>
      by_cases hk:k=id
      ·refine ite_yes (c:=k=id) hk ⟨rfl,(.normal,s',it'),List.mem_map.2 ⟨_,hp,?_⟩,rfl,V',h',X',hle,rfl,hs',hD',hX'⟩
       simp only [cond_eq_ite,Nat.beq_eq]; rw [if_pos hk]
      ·refine ite_no (c:=k=id) hk ⟨rfl,(.exit k,s',it'),List.mem_map.2 ⟨_,hp,?_⟩,rfl,V',h',X',hle,rfl,hs',hD',hX'⟩
       simp only [cond_eq_ite,Nat.beq_eq]; rw [if_neg hk]
     | normal=>exact ⟨rfl,(.normal,s',it'),List.mem_map.2 ⟨_,hp,rfl⟩,rfl,V',h',X',hle,rfl,hs',hD',hX'⟩
     | ret=>exact ⟨rfl,(.ret,s',it'),List.mem_map.2 ⟨_,hp,rfl⟩,rfl,V',h',X',hle,rfl,hs',hD',hX'⟩
   | loop b =>
    rename_i hm
    refine X_loop (fun m ds g L=>m≤f+1∧ds=[]∧∃ s1 it1 l1 V1 h1 X1,execM TT rec m n (.loop b) s1 it1=some l1∧(∀ p∈l1,p∈l)∧V0≤V1∧L=h1+(X1+fr)∧RS P V1 s1 g h1∧s1.D=[]∧RIt V1 it1 X1) (f+1)
     ⟨Nat.le_refl _,rfl,s,it,l,V,h,X,by unfold execM; rw [cond_eq_ite,if_pos hm]; exact hr,fun p hp=>hp,hV,rfl,hs,hD,hX⟩ ?_
    rintro m ds g1 L1 ⟨hmf,rfl,s1,it1,l1,V1,h1,X1,hr1,hsub,hV1,rfl,hs1,hD1,hX1⟩
    cases m with
    | zero=>cases hr1
    | succ m =>
     unfold execM at hr1
     rw [cond_eq_ite,if_pos hm] at hr1
     simp only at hr1
     split at hr1
     ·cases hr1
     ·rename_i l' hl
      refine wZ ?_ (ih m (by omega) b s1 it1 V1 g1 h1 X1 l' hl hV1 hs1 hD1 hX1)
      rintro ds ex g' L' ⟨rfl,⟨e,s',it'⟩,hp,rfl,V',h',X',hle,rfl,hs',hD',hX'⟩
      obtain ⟨l2,k1,k2⟩:=bindM_mem hr1 _ hp
      cases e with
      | normal=>exact ⟨m,Nat.lt_succ_self m,by omega,rfl,s',it',l2,V',h',X',k1,fun p hp=>hsub p (k2 p hp),hle,rfl,hs',hD',hX'⟩
      | exit k =>
       simp only [Option.some.injEq] at k1; subst k1
       exact ⟨rfl,_,hsub _ (k2 _ (by simp)),rfl,V',h',X',hle,rfl,hs',hD',hX'⟩
      | ret =>
       simp only [Option.some.injEq] at k1; subst k1
       exact ⟨rfl,_,hsub _ (k2 _ (by simp)),rfl,V',h',X',hle,rfl,hs',hD',hX'⟩
   | _=>cases hr
  ·split at hr
   ·rename_i e s' h1
    rw [cond_eq_ite] at hr
    split at hr
    ·rename_i hn
     simp only [Option.some.injEq] at hr; subst hr
     refine wZ ?_ (hS.code h1 (w0:=w0) (fr:=X+fr) (ds:=[]) (B:=[]) (Val.refl V) hs (by rw [hD]; rfl))
     rintro ds ex g' L' ⟨rfl,V',h',hle,rfl,hs',hd'⟩
     have hD':=isNilD'_ok hn
     rw [hD'] at hd'
     have hd':ds=[]:=hd'
     exact ⟨hd',(e,s',it),by simp,rfl,V',h',X,Val.trans hV hle,rfl,hs',hD',hX.mono hle⟩
    ·cases hr
   ·cases hr
theorem endM_ok {rs:List ResultVar} {x:Bool} {H:T AO} {ids:List Nat} {m:Nat}:∀ {l:List Oc},endM TT rs x H ids m l=true→∀ p∈l,(p.1=.normal∨p.1=.ret)∧resA TT p.2.1.E p.2.1.H rs=some [.b x]∧p.2.1.nx≤m∧subJ H p.2.1.H ids=true
 | [],_,p,hp=>by cases hp
 | q::l,h,p,hp=>by
  rw [endM,Bool.and_eq_true] at h
  rcases List.mem_cons.1 hp with rfl|hp
  ·have h1:=h.1
   clear h
   split at h1
   ·cases h1
   ·rename_i hne
    split at h1
    ·rename_i y hy
     simp only [Bool.and_eq_true,beq_iff_eq] at h1
     obtain ⟨rfl,h2,h3⟩:=h1
     refine ⟨?_,hy,Nat.le_of_ble_eq_true h2,h3⟩
     cases hp1:p.1 with
     | normal=>exact .inl O
     | ret=>exact .inr O
     | exit k=>exact absurd hp1 (hne k)
    ·cases h1
  ·exact endM_ok h.2 p hp
theorem mr_sum (hT:TOk P TT) (hF:FOk P FT) (hS:Snd P rec) {k:Nat} (hk:Nonempty (Fun P k)):jK P k (F_mr TT FT rec k):=by
 refine ⟨hk,fun {w0 V vs us H nx h r} hl hH hFr=>?_⟩
 unfold F_mr at hFr
 split at hFr
 ·cases hFr
 ·rename_i fn hfn
  obtain ⟨hk1,_⟩:=hF k fn hfn
  split at hFr
  ·cases hFr
  ·rename_i c hb
   rw [cond_eq_ite] at hFr
   split at hFr
   ·rename_i hlen
    have hlen:vs.length≤fn.ntmps:=Nat.le_of_ble_eq_true hlen
    split at hFr
    rename_i A ids hreach
    have hpart:=reach_part 100000 _ _ _ _ (Part.nil H) hreach
    replace hpart:Part H A ids:=hpart
    split at hFr
    ·cases hFr
    ·cases hFr
    ·rename_i p l hex
     split at hFr
     ·rename_i x hx
      simp only [cond_eq_ite] at hFr
      split at hFr
      ·rename_i hend
       simp only [Option.some.injEq] at hFr
       subst hFr
       obtain ⟨hL,h2,rfl,q1,q2⟩:=hH.split ids
       refine spec_of_holdX (rs:=fn.results.toList) hk1 hb O (by simp) (by rw [hl.length]; exact hlen) fun fr=>?_
       have hx:=execM_ok (w0:=w0) (n:=fn.ntmps) (fr:=h2+fr) (V0:=V) hT hS 1001 1000 (by omega) c _ none V (argE 0 us) hL 0 _ hex (Val.refl V) ⟨args_RE hl,hH.part hpart q1⟩ rfl O
       rw [jX,← yH] at hx
       refine wZ ?_ hx
       rintro ds1 ex g1 L1 ⟨rfl,q,hq,rfl,V1,h1',X1,hle,rfl,hs1,hD1,hX1⟩
       obtain ⟨e1,e2,e3,e4⟩:=endM_ok hend q hq
       obtain ⟨us2,r1,r2⟩:=resA_ok (P:=P) (w0:=w0) (fr:=X1+(h2+fr)) hT hs1.env hs1.heap e2
       have key:Ends P w0 fn.results.toList fr (fun u h'=>∃ V',V≤V'∧R V' (.b x) u∧RH P V' H (maxM (p::l) nx) h') [] g1 (h1'+(X1+(h2+fr))) :=
        .done (h:=h1'+h2) (R:=X1) r1 ⟨V1,hle,oneA_ok r2,hH.join hpart q2 hs1.heap hle e4 e3⟩ (by ac_rfl)
       rcases e1 with e1|e1
       ·rw [e1]; exact key
       ·rw [e1]; exact key
      ·cases hFr
     ·cases hFr
   ·cases hFr
end
end
end Ab
namespace Ab
noncomputable section
def ansR :Ans→Rs
 | .g (v,H,nx)=>.val v H nx
 | .bad n=>.bad n
section
variable (TT:Nat→Option TI) (FT:Nat→Option Func) (SM:T jJ) (d:Nat)
def execH :Nat→Tk→Rs
 | 0,_=>.bad 0
 | f+1,t=>match t with
  | .fn k vs H nx=>ansR ((callN TT FT SM d).rv true k vs H nx fun w v H nx=>.g (valK w v,H,nx))
  | .dfn k vs H nx=>ansR ((callN TT FT SM d).rv false k vs H nx fun w v H nx=>.g (valK w v,H,nx))
  | .code n c s=>uB TT FT SM (execH f) (.code n c s)
end
theorem execH_snd {P:Program} {TT:Nat→Option TI} {FT:Nat→Option Func} {SM:T jJ} {d:Nat} (hm:P.follows .mixedOrders=true) (hT:TOk P TT) (hF:FOk P FT) (hM:SOk P SM):∀ f,Snd P (execH TT FT SM d f)
 | 0=>⟨fun h=>(by cases h),fun h=>(by cases h),fun h=>(by cases h)⟩
 | f+1=>by
  have ih:=execH_snd (d:=d) hm hT hF hM f
  have key:∀ {b:Bool} {k:Nat} {vs:List AV} {H:T AO} {nx:Nat} {v:AV} {H':T AO} {nx':Nat},ansR ((callN TT FT SM d).rv b k vs H nx fun w v H nx=>.g (valK w v,H,nx))=.val v H' nx'→Ev TT FT SM (bif b then .fn k vs H nx else .dfn k vs H nx) (.val v H' nx'):=by
   intro b k vs H nx v H' nx' h
   cases hr:(callN TT FT SM d).rv b k vs H nx fun w v H nx=>.g (valK w v,H,nx) with
   | bad n=>rw [hr] at h; cases h
   | g z =>
    obtain ⟨v1,w,v',H1,nx1,h1,h2,h3⟩:=(callN_ok (TT:=TT) (FT:=FT) (SM:=SM) d).v hr
    rw [hr] at h
    obtain ⟨zv,zH,zn⟩:=z
    simp only [ansR,Rs.val.injEq] at h
    obtain ⟨rfl,rfl,rfl⟩:=h
    simp only [Ans.g.injEq,Prod.mk.injEq] at h3
    obtain ⟨rfl,rfl,rfl⟩:=h3
    rw [valK_eq h2]; exact h1
  refine ⟨fun {n c s e s'} h=>?_,fun {k vs H nx v H' nx'} h=>?_,fun {k vs H nx v H' nx'} h=>?_⟩
  ·exact (step_snd hm hT hF hM ih).code h
  ·obtain ⟨B,hB⟩:=key (b:=true) h
   exact (exec_snd hm hT hF hM B).fn (hB B (Nat.le_refl _))
  ·obtain ⟨B,hB⟩:=key (b:=false) h
   exact (exec_snd hm hT hF hM B).dfn (hB B (Nat.le_refl _))
end
end Ab
set_option maxRecDepth 4000
theorem jL :Tryz.prog.follows .mixedOrders=true:=by kernel_rfl
namespace Ab
noncomputable section
def TTn :Nat→Option TI:=tiT Tryz.prog
def FTn :Nat→Option Func:=fnT Tryz.prog
def SMa :T jJ:=((((T.e:T jJ).put F_more 149).put (F_or (F_intP 5) F_int) 24).put (F_or (F_blobP 5) F_blob) 26).put F_keys 62
def SMb :T jJ:=(SMa.put (F_rf TTn FTn (execH TTn FTn SMa 1000 1000) 276) 276).put (F_rf TTn FTn (execH TTn FTn SMa 1000 1000) 310) 310
def SMn :T jJ:=SMb.put (F_mr TTn FTn (execH TTn FTn SMb 1000 1000) 86) 86
theorem SMa_ok :SOk Tryz.prog SMa:=by
 unfold SMa
 refine SOk.put (SOk.put (SOk.put (SOk.put (no_summ _) ?_) ?_) ?_) keys_sum
 ·exact more_sum fun w0 X v bs s hs hv hl=>sumsMore_spec w0 X v bs s hs hv (by omega)
 ·exact vR (intP_sum fun w0 X v b n hv hl=>putInt_spec w0 X v b n hv (by omega)) (int_sum fun w0 X v b n hv hl=>putInt_spec w0 X v b n hv (by omega))
 ·have hb:∀ (w0:World) (X:Hp) (v u:Value) (b p:List Bt),RdL w0 X v b→RdL w0 X u p→b.length≤1000000000→p.length≤1000000000→Spec Tryz.prog w0 26 [v,u] X (fun r h'=>∃ h,OwL w0 0 (b++(be8 p.length++p)) r h∧X+h=h'):=fun w0 X v u b p hv hu h1 h2=>by
   have:=putBlob_spec w0 X v u b p hv hu (by omega); simpa only [List.append_assoc] using this
  exact vR (blobP_sum hb) (blob_sum hb)
theorem snd_of {SM:T jJ} (h:SOk Tryz.prog SM):Snd Tryz.prog (execH TTn FTn SM 1000 1000):=execH_snd jL (tiT_ok _) (fnT_ok _) h 1000
theorem SMb_ok :SOk Tryz.prog SMb:=by
 unfold SMb
 exact SOk.put (SOk.put SMa_ok (rf_sum jL (tiT_ok _) (fnT_ok _) (snd_of SMa_ok) ⟨inferInstance⟩)) (rf_sum jL (tiT_ok _) (fnT_ok _) (snd_of SMa_ok) ⟨inferInstance⟩)
theorem vS :SOk Tryz.prog SMn:=by
 unfold SMn
 exact SOk.put SMb_ok (mr_sum (tiT_ok _) (fnT_ok _) (snd_of SMb_ok) ⟨inferInstance⟩)
end
end Ab
namespace Ab
noncomputable section
abbrev Hl :=List (Nat × AO)
def mkH :Hl→T AO→T AO
 | [],H=>H
 | (id,o)::l,H=>mkH l (H.put o id)
theorem mkH_get :∀ {l:Hl} {H:T AO} {id:Nat} {o:AO},(mkH l H).get id=some o→(id,o)∈l∨H.get id=some o
 | [],H,id,o,h=>.inr h
 | (k,o')::l,H,id,o,h=>by
  replace h:(mkH l (H.put o' k)).get id=some o:=h
  rcases mkH_get h with h|h
  ·exact .inl (List.mem_cons_of_mem _ h)
  ·rw [T.get_put] at h
   split at h
   ·rename_i e
    have h:=Option.some.inj h
    rw [e,← h]
    exact .inl List.mem_cons_self
   ·exact .inr h
theorem mkH_none :∀ (l:Hl) (id:Nat),(∀ H:T AO,(mkH l H).get id=(mkH l .e).get id)∨(∀ H:T AO,(mkH l H).get id=H.get id)
 | [],id=>.inr fun H=>rfl
 | (k,o)::l,id=>by
  rcases mkH_none l id with h|h
  ·exact .inl fun H=>(h (H.put o k)).trans (h ((T.e:T AO).put o k)).symm
  ·by_cases e:id=k
   ·subst e
    refine .inl fun H=>?_
    show (mkH l (H.put o id)).get id=(mkH l ((T.e:T AO).put o id)).get id
    rw [h,h,T.get_put,T.get_put,if_pos O,if_pos O]
   ·refine .inr fun H=>?_
    show (mkH l (H.put o k)).get id=H.get id
    rw [h,T.get_put,if_neg e]
theorem mkH_either (l:Hl) (H:T AO) (id:Nat):(mkH l H).get id=(mkH l .e).get id∨(mkH l H).get id=H.get id:=by
 rcases mkH_none l id with h|h
 ·exact .inl (h H)
 ·exact .inr (h H)
def wfC (n:Nat):CT→Bool
 | .li l=>Nat.beq l.length n
 | _=>true
def wfB :AO→Bool
 | .c _ n _ s=>wfC n s
 | _=>true
def subL (H:T AO) (nx:Nat):Hl→Bool
 | []=>true
 | (id,o)::l=>and (and (Nat.blt id nx) (match H.get id with
  | none=>false
  | some o'=>and (wfB o) (subB o o'))) (subL H nx l)
theorem wfC_ok {n:Nat} {s:CT} (h:wfC n s=true):s.wf n:=by
 cases s with
 | li l=>exact Nat.eq_of_beq_eq_true h
 | _=>trivial
theorem subB_wf {P:Program} {V:Val} {C:Nat} {o o':AO} {ob:Obj} (h:subB o o'=true) (hw:wfB o=true) (hO:RO P V C o' ob):RO P V C o ob:=by
 unfold subB at h
 split at h
 ·simp only [Bool.and_eq_true,Nat.beq_eq,beq_iff_eq] at h
  obtain ⟨⟨rfl,rfl⟩,rfl,h4⟩:=h
  obtain ⟨_,c,h1,h11,h2,h3,h3',h5⟩:=hO
  exact ⟨wfC_ok hw,c,h1,h11,h2,h3,h3',fun k v hk hv=>h5 k v hk (subC_ok h4 k v hk hv)⟩
 ·simp only [Bool.and_eq_true,Nat.beq_eq] at h
  obtain ⟨rfl,h2⟩:=h
  rw [eqM_eq h2]; exact hO
 ·simp only [Bool.and_eq_true,Nat.beq_eq] at h
  obtain ⟨rfl,rfl,rfl⟩:=h
  exact hO
 ·cases h
theorem subL_mem {H:T AO} {nx:Nat}:∀ {l:Hl},subL H nx l=true→∀ id o,(id,o)∈l→∃ o',H.get id=some o'∧wfB o=true∧subB o o'=true
 | [],_,_,_,h=>by cases h
 | (k,p)::l,h,id,o,hm=>by
  rw [subL,Bool.and_eq_true,Bool.and_eq_true] at h
  rcases List.mem_cons.1 hm with e|hm
  ·simp only [Prod.mk.injEq] at e
   obtain ⟨rfl,rfl⟩:=e
   have h1:=h.1.2
   split at h1
   ·cases h1
   ·rename_i o' ho
    rw [Bool.and_eq_true] at h1
    exact ⟨o',ho,h1.1,h1.2⟩
  ·exact subL_mem h.2 id o hm
theorem RH.down {P:Program} {V:Val} {H:T AO} {nx m:Nat} {h:Hp} (hr:RH P V H nx h) {l:Hl} (hs:subL H nx l=true) (hm:nx≤m):RH P V (mkH l .e) m h:=by
 have key:∀ id o,(mkH l .e).get id=some o→∃ o',H.get id=some o'∧wfB o=true∧subB o o'=true:=fun id o ho=>by
  rcases mkH_get ho with ho|ho
  ·exact subL_mem hs id o ho
  ·rw [T.get_e] at ho; cases ho
 refine ⟨fun id hid=>hr.fresh id (by omega),fun id o ho=>?_,fun id id' o o' b C C' ho ho' hb hb'=>?_⟩
 ·obtain ⟨o',h1,h2,h3⟩:=key id o ho
  obtain ⟨b,C,ob,Rr,k1,k2,k3⟩:=hr.has id o' h1
  exact ⟨b,C,ob,Rr,k1,k2,subB_wf h3 h2 k3⟩
 ·obtain ⟨o1,g1,_⟩:=key id o ho
  obtain ⟨o2,g2,_⟩:=key id' o' ho'
  exact hr.inj id id' o1 o2 b C C' g1 g2 hb hb'
structure Ck where
 k:Nat
 vs:List AV
 nx:Nat
 L:Hl
 v:AV
 nx':Nat
 L':Hl
def delL :Hl→T AO→T AO
 | [],H=>H
 | (id,_)::l,H=>delL l (H.del id)
theorem delL_get :∀ {l:Hl} {H:T AO} {id:Nat} {o:AO},(delL l H).get id=some o→id∉l.map Prod.fst∧H.get id=some o
 | [],H,id,o,h=>⟨by simp,h⟩
 | (k,o')::l,H,id,o,h=>by
  replace h:(delL l (H.del k)).get id=some o:=h
  obtain ⟨h1,h2⟩:=delL_get h
  obtain ⟨h3,h4⟩:=T.get_del _ _ _ h2
  refine ⟨fun hm=>?_,h4⟩
  rw [List.map_cons] at hm
  rcases List.mem_cons.1 hm with e|hm
  ·exact h3 e
  ·exact h1 hm
def F_ck (c:Ck):jJ:=fun vs H nx=>bif and (Nat.beq nx c.nx) (and (eqAL vs c.vs) (subL H nx c.L)) then some (c.v,mkH c.L' (delL c.L H),c.nx') else none
theorem RH.downL {P:Program} {V:Val} {H:T AO} {nx m:Nat} {h hL:Hp} (hr:RH P V H nx h) {l:Hl} (hs:subL H nx l=true) (hm:nx≤m)
  (q:∀ id o,H.get id=some o→id∈l.map Prod.fst→∃ b C ob Rr,V id=some (b,C)∧hL=pt b ob+Rr∧RO P V C o ob):RH P V (mkH l .e) m hL:=by
 have key:∀ id o,(mkH l .e).get id=some o→id∈l.map Prod.fst∧∃ o',H.get id=some o'∧wfB o=true∧subB o o'=true:=fun id o ho=>by
  rcases mkH_get ho with ho|ho
  ·exact ⟨List.mem_map.2 ⟨_,ho,rfl⟩,subL_mem hs id o ho⟩
  ·rw [T.get_e] at ho; cases ho
 refine ⟨fun id hid=>hr.fresh id (by omega),fun id o ho=>?_,fun id id' o o' b C C' ho ho' hb hb'=>?_⟩
 ·obtain ⟨hi,o',h1,h2,h3⟩:=key id o ho
  obtain ⟨b,C,ob,Rr,k1,k2,k3⟩:=q id o' h1 hi
  exact ⟨b,C,ob,Rr,k1,k2,subB_wf h3 h2 k3⟩
 ·obtain ⟨_,o1,g1,_⟩:=key id o ho
  obtain ⟨_,o2,g2,_⟩:=key id' o' ho'
  exact hr.inj id id' o1 o2 b C C' g1 g2 hb hb'
theorem two_apart {w0 w:World} {b:Nat} {ob ob':Obj} {h h2 R R' fr:Hp} (hst:St w0 w (h+(h2+fr))) (e1:h=pt b ob+R) (e2:h2=pt b ob'+R'):False:=by
 rw [e1,e2] at hst
 have e:pt b ob+R+(pt b ob'+R'+fr)=pt b ob+pt b ob'+(R+R'+fr):=by ac_rfl
 rw [e] at hst
 exact hst.left.sat.ne O
theorem RH.joinL {P:Program} {V V':Val} {H:T AO} {l l':Hl} {nx m:Nat} {h h2 h' fr:Hp} {w0 w:World} (h0:RH P V H nx h) (h1:RH P V' (mkH l' .e) m h') (hV:V≤V')
  (q:∀ id o,H.get id=some o→id∉l.map Prod.fst→∃ b C ob Rr,V id=some (b,C)∧h2=pt b ob+Rr∧RO P V C o ob) (hst:St w0 w (h'+(h2+fr))):RH P V' (mkH l' (delL l H)) m (h'+h2):=by
 have key:∀ id o,(mkH l' (delL l H)).get id=some o→(∃ o',(mkH l' .e).get id=some o'∧∃ b C ob Rr,V' id=some (b,C)∧h'=pt b ob+Rr∧RO P V' C o ob) ∨
   (H.get id=some o∧∃ b C ob Rr,V id=some (b,C)∧h2=pt b ob+Rr∧RO P V' C o ob):=fun id o ho=>by
  rcases mkH_either l' (delL l H) id with e|e
  ·rw [ho] at e
   obtain ⟨b,C,ob,Rr,k1,k2,k3⟩:=h1.has id o e.symm
   exact .inl ⟨o,e.symm,b,C,ob,Rr,k1,k2,k3⟩
  ·rw [ho] at e
   obtain ⟨g1,g2⟩:=delL_get e.symm
   obtain ⟨b,C,ob,Rr,k1,k2,k3⟩:=q id o g2 g1
   exact .inr ⟨g2,b,C,ob,Rr,k1,k2,k3.mono hV⟩
 refine ⟨h1.fresh,fun id o ho=>?_,fun id id' o o' b C C' ho ho' hb hb'=>?_⟩
 ·rcases key id o ho with ⟨_,_,b,C,ob,Rr,k1,k2,k3⟩|⟨_,b,C,ob,Rr,k1,k2,k3⟩
  ·exact ⟨b,C,ob,Rr+h2,k1,by rw [k2]; ac_rfl,k3⟩
  ·exact ⟨b,C,ob,h'+Rr,hV _ _ k1,by rw [k2]; ac_rfl,k3⟩
 ·rcases key id o ho with ⟨o1,g1,b1,C1,ob1,R1,k1,k2,_⟩|⟨g1,b1,C1,ob1,R1,k1,k2,_⟩
  ·rcases key id' o' ho' with ⟨o2,g2,b2,C2,ob2,R2,j1,j2,_⟩|⟨g2,b2,C2,ob2,R2,j1,j2,_⟩
   ·exact h1.inj id id' o1 o2 b C C' g1 g2 hb hb'
   ·exfalso
    have j1:=hV _ _ j1
    rw [hb] at k1; rw [hb'] at j1
    simp only [Option.some.injEq,Prod.mk.injEq] at k1 j1
    rw [← k1.1] at k2; rw [← j1.1] at j2
    exact two_apart hst k2 j2
  ·rcases key id' o' ho' with ⟨o2,g2,b2,C2,ob2,R2,j1,j2,_⟩|⟨g2,b2,C2,ob2,R2,j1,j2,_⟩
   ·exfalso
    have k1:=hV _ _ k1
    rw [hb] at k1; rw [hb'] at j1
    simp only [Option.some.injEq,Prod.mk.injEq] at k1 j1
    rw [← k1.1] at k2; rw [← j1.1] at j2
    exact two_apart hst j2 k2
   ·have e1:=hV _ _ k1
    have e2:=hV _ _ j1
    rw [hb] at e1; rw [hb'] at e2
    simp only [Option.some.injEq,Prod.mk.injEq] at e1 e2
    exact h0.inj id id' o o' b C1 C2 g1 g2 (by rw [k1,e1.1]) (by rw [j1,e2.1])
section
variable (TT:Nat→Option TI) (FT:Nat→Option Func) (SM:T jJ) (d:Nat)
def ckRun (c:Ck):Ans:=thenN (callN TT FT SM d) c.k c.vs (mkH c.L .e) c.nx fun v H nx=>bif and (eqA c.v v) (and (Nat.ble nx c.nx') (subL H nx c.L')) then .g (.b true,.e,0) else .bad 5
def F_run (k:Nat):jJ:=fun vs H nx=>match execH TT FT SM d 1 (.fn k vs H nx) with
 | .val v H nx=>some (v,H,nx)
 | _=>none
end
theorem ck_sum {P:Program} {TT:Nat→Option TI} {FT:Nat→Option Func} {SM:T jJ} {d:Nat} (hm:P.follows .mixedOrders=true) (hT:TOk P TT) (hF:FOk P FT) (hM:SOk P SM) {c:Ck} (hk:Nonempty (Fun P c.k)) (h:isG (ckRun TT FT SM d c)=true):jK P c.k (F_ck c):=by
 refine ⟨hk,fun {w0 V vs us H nx h0 r} hl hH hFr=>?_⟩
 unfold F_ck at hFr
 rw [cond_eq_ite] at hFr
 split at hFr
 ·rename_i hc
  simp only [Bool.and_eq_true,Nat.beq_eq] at hc
  obtain ⟨rfl,hv,hs⟩:=hc
  have hv:=eqAL_eq _ _ hv
  subst hv
  simp only [Option.some.injEq] at hFr; subst hFr
  have hz:∃ z,ckRun TT FT SM d c=.g z:=by
   cases hr:ckRun TT FT SM d c with
   | g z=>exact ⟨z,rfl⟩
   | bad n=>rw [hr] at h; cases h
  obtain ⟨z,hz⟩:=hz
  obtain ⟨v,H',nx',h1,h2⟩:=thenN_ok hz
  rw [cond_eq_ite] at h2
  split at h2
  ·rename_i hc
   simp only [Bool.and_eq_true] at hc
   obtain ⟨k1,k2,k3⟩:=hc
   have k1:=eqA_eq _ _ k1
   obtain ⟨hL,h2,rfl,q1,q2⟩:=hH.split (c.L.map Prod.fst)
   have hspec:=ev_spec hm hT hF hM h1 (w0:=w0) hl (hH.downL hs (Nat.le_refl _) q1)
   intro w fr hst
   rw [yH] at hst
   refine Calls.mono (hspec w (h2+fr) hst) ?_
   rintro e w' ⟨u,h',rfl,⟨V',hle,hR,hH'⟩,hst'⟩
   refine ⟨u,h'+h2,rfl,⟨V',hle,?_,hH.joinL (hH'.down k3 (Nat.le_of_ble_eq_true k2)) hle q2 hst'⟩,by rw [yH]; exact hst'⟩
   show R V' c.v u
   rw [k1]; exact hR
  ·cases h2
 ·cases hFr
def ckAll (TT:Nat→Option TI) (FT:Nat→Option Func) (SM:T jJ) (d:Nat):List Ck→Bool
 | []=>true
 | c::l=>and (isG (ckRun TT FT SM d c)) (ckAll TT FT SM d l)
theorem ckAll_mem {TT:Nat→Option TI} {FT:Nat→Option Func} {SM:T jJ} {d:Nat}:∀ {l:List Ck},ckAll TT FT SM d l=true→∀ c∈l,isG (ckRun TT FT SM d c)=true
 | [],_,c,hc=>by cases hc
 | x::l,h,c,hc=>by
  rw [ckAll,Bool.and_eq_true] at h
  rcases List.mem_cons.1 hc with rfl|hc
  ·exact h.1
  ·exact ckAll_mem h.2 c hc
def F_cks (k:Nat):List Ck→jJ
 | []=>fun _ _ _=>none
 | c::l=>fun vs H nx=>bif and (Nat.beq c.k k) (Nat.beq nx c.nx) then F_ck c vs H nx else F_cks k l vs H nx
theorem vX {P:Program} {k:Nat} (hk:Nonempty (Fun P k)):∀ {l:List Ck},(∀ c∈l,c.k=k→jK P k (F_ck c))→jK P k (F_cks k l)
 | [],_=>⟨hk,fun {w0 V vs us H nx h0 r} hl hH hFr=>by cases hFr⟩
 | c::l,h=>⟨hk,fun {w0 V vs us H nx h0 r} hl hH hFr=>by
  unfold F_cks at hFr
  rw [cond_eq_ite] at hFr
  split at hFr
  ·rename_i hc
   simp only [Bool.and_eq_true,Nat.beq_eq] at hc
   exact (h c List.mem_cons_self hc.1).2 hl hH hFr
  ·exact (vX hk (fun c hc=>h c (List.mem_cons_of_mem _ hc))).2 hl hH hFr⟩
theorem wF {P:Program} {TT:Nat→Option TI} {FT:Nat→Option Func} {SM:T jJ} {d:Nat} (hm:P.follows .mixedOrders=true) (hT:TOk P TT) (hF:FOk P FT) (hM:SOk P SM) {l:List Ck} (h:ckAll TT FT SM d l=true) {k:Nat} (hk:Nonempty (Fun P k)):∀ c∈l,c.k=k→jK P k (F_ck c):=fun c hc e=>by
 subst e; exact ck_sum hm hT hF hM hk (ckAll_mem h c hc)
theorem run_sum {P:Program} {TT:Nat→Option TI} {FT:Nat→Option Func} {SM:T jJ} {d:Nat} (hm:P.follows .mixedOrders=true) (hT:TOk P TT) (hF:FOk P FT) (hM:SOk P SM) {k:Nat} (hk:Nonempty (Fun P k)):jK P k (F_run TT FT SM d k):=by
 refine ⟨hk,fun {w0 V vs us H nx h0 r} hl hH hFr=>?_⟩
 unfold F_run at hFr
 split at hFr
 ·rename_i v H' nx' hr
  simp only [Option.some.injEq] at hFr; subst hFr
  exact ((execH_snd (d:=d) hm hT hF hM 1).fn hr).2 hl hH
 ·cases hFr
end
end Ab
namespace Ab
noncomputable section
abbrev i (n:Nat):AV:=.i .i64 n
def cb (e:Nat) (kn:Bool) (l:List AV):AO:=.c e l.length kn (cellsOf l.length l)
def yb (e:Nat) (kn:Bool) (l:List Nat):AO:=.c e l.length kn (cellsOf l.length (l.map (.i .u8)))
theorem ckn {c:Ck} (hk:Nonempty (Fun Tryz.prog c.k)) {SM:T jJ} (hM:SOk Tryz.prog SM) (h:isG (ckRun TTn FTn SM 1000 c)=true):jK Tryz.prog c.k (F_ck c):=ck_sum jL (tiT_ok _) (fnT_ok _) hM hk h
theorem runn {k:Nat} (hk:Nonempty (Fun Tryz.prog k)) {SM:T jJ} (hM:SOk Tryz.prog SM):jK Tryz.prog k (F_run TTn FTn SM 1000 k):=run_sum jL (tiT_ok _) (fnT_ok _) hM hk
end
end Ab
set_option maxRecDepth 100000
namespace Ab
noncomputable section
def L1 :Hl:=[(3,.mp [(i 2049,.ag [.sl 341 0 64 0 false,.b false],0),(i 2050,.ag [.sl 347 0 64 0 false,.b false],1),(i 2051,.ag [.sl 353 0 64 0 false,.b false],2),(i 2052,.ag [.sl 359 0 64 0 false,.b false],3),(i 2053,.ag [.sl 365 0 64 0 false,.b false],4),(i 2054,.ag [.sl 371 0 64 0 false,.b false],5),(i 2055,.ag [.sl 377 0 64 0 false,.b false],6),(i 2056,.ag [.sl 383 0 64 0 false,.b false],7),(i 2057,.ag [.sl 389 0 32 0 false,.b false],8),(i 2048,.ag [.sl 397 0 64 0 false,.b false],9)] 10),
 (4,.mp [] 10),
 (5,cb 93 true [i 8192,.m 3,.m 4,.b false,.b false,i 0]),
 (98,cb 222 true [.p 400 0,.p 5 0,i 2048,i 1,.b false]),
 (106,.mp [(i 0,.p 142 0,0),(i 1,.p 207 0,1)] 2),
 (107,.mp [] 0),
 (108,cb 109 true [i 1,i 1,.p 98 0,i 1,.sl 204 0 2 0 false,.ns,.m 106,.m 107,.b false,.ns,.ns]),
 (113,cb 3 false [i 1]),
 (137,yb 5 false [0,0,0,0,0,0,0,1,0,0,0,0,0,0,0,0,0,0,0,0,0,0,0,64,0,0,0,0,0,0,0,1,0,0,0,0,0,0,0,1,0,0,0,0,0,0,0,1,0,0,0,0,0,0,0,0,0,0,0,0,0,0,0,0,0,0,0,0,0,0,0,0,0,0,0,0,0,0,0,0,0,0,0,0,0,0,0,0,0,0,0,0,0,0,0,0]),
 (141,.mp [] 0),
 (142,cb 183 true [i 1,i 0,i 1,.p 173 0,.it 156 (.ag [.sl 153 0 1 0 false,i 1,i 0,i 0,i 0,i 0,i 0,.ns]),.ns,.ns,.m 141,.ns,.ns,.ns,.ns,i 0,.b false]),
 (153,cb 60 false [i 0,i 64,i 1,i 1]),
 (170,cb 3 false [i 1]),
 (172,yb 5 false [0,0,0,0,0,0,0,1,0,0,0,0,0,0,0,0,0,0,0,0,0,0,0,64,0,0,0,0,0,0,0,1,0,0,0,0,0,0,0,1,0,0,0,0,0,0,0,1,0,0,0,0,0,0,0,0,0,0,0,0,0,0,0,0,0,0,0,0,0,0,0,0,0,0,0,0,0,0,0,0,0,0,0,0,0,0,0,0,0,0,0,0,0,0,0,0]),
 (173,cb 297 true [i 1,i 0,i 0,i 0,i 0,i 0,.ns,.sl 170 0 1 0 false,.ns,.ns,.sl 172 0 96 0 false,i 0,i 0,i 0,i 0,i 9,i 10,.ns,.ns,i 0,i 0]),
 (179,cb 3 false [i 1]),
 (202,yb 5 false [0,0,0,0,0,0,0,0,0,0,0,0,0,0,0,64,0,0,0,0,0,0,0,1,0,0,0,0,0,0,0,0,0,0,0,0,0,0,0,0,0,0,0,0,0,0,0,0,0,0,0,0,0,0,0,0,0,0,0,0,0,0,0,0,0,0,0,0,0,0,0,0,0,0,0,0,0,0,0,0]),
 (204,cb 145 false [i 0,i 0,i 0,i 0,i 0,.ns,.sl 113 0 1 0 false,.ns,.ns,.sl 137 0 96 0 false,i 1,i 0,i 0,i 0,i 0,.ns,.sl 179 0 1 0 false,.ns,.ns,.sl 202 0 80 0 false]),
 (206,.mp [] 0),
 (207,cb 183 true [i 1,i 1,i 1,.p 231 0,.it 74 (.ag [i 0,i 64,i 1,.ns,.ns,.ns,.ns,.sl 218 0 0 0 true,.ns,.ns]),.ns,.ns,.m 206,.ns,.ns,.ns,.ns,i 0,.b false]),
 (218,cb 3 true []),
 (228,cb 3 false [i 1]),
 (230,yb 5 false [0,0,0,0,0,0,0,0,0,0,0,0,0,0,0,64,0,0,0,0,0,0,0,1,0,0,0,0,0,0,0,0,0,0,0,0,0,0,0,0,0,0,0,0,0,0,0,0,0,0,0,0,0,0,0,0,0,0,0,0,0,0,0,0,0,0,0,0,0,0,0,0,0,0,0,0,0,0,0,0]),
 (231,cb 297 true [i 1,i 1,i 0,i 0,i 0,i 0,.ns,.sl 228 0 1 0 false,.ns,.ns,.sl 230 0 80 0 false,i 0,i 0,i 0,i 0,i 9,i 10,.ns,.ns,i 0,i 0]),
 (341,yb 5 false [0,0,0,0,0,0,0,1,0,0,0,0,0,0,0,0,0,0,0,0,0,0,0,2,0,0,0,0,0,0,0,0,0,0,0,0,0,0,0,0,0,0,0,0,0,0,0,1,0,0,0,0,0,0,0,1,0,0,0,0,0,0,0,0]),
 (347,yb 5 false [0,0,0,0,0,0,0,1,0,0,0,0,0,0,0,0,0,0,0,0,0,0,0,4,0,0,0,0,0,0,0,0,0,0,0,0,0,0,0,96,0,0,0,0,0,0,0,1,0,0,0,0,0,0,0,0,0,0,0,0,0,0,0,64]),
 (353,yb 5 false [0,0,0,0,0,0,0,1,0,0,0,0,0,0,0,0,0,0,0,0,0,0,0,6,0,0,0,0,0,0,0,1,0,0,0,0,0,0,0,1,0,0,0,0,0,0,0,1,0,0,0,0,0,0,0,0,0,0,0,0,0,0,0,0]),
 (359,yb 5 false [0,0,0,0,0,0,0,1,0,0,0,0,0,0,0,0,0,0,0,0,0,0,0,8,0,0,0,0,0,0,0,0,0,0,0,0,0,0,0,0,0,0,0,0,0,0,0,0,0,0,0,0,0,0,0,0,0,0,0,0,0,0,0,1]),
 (365,yb 5 false [0,0,0,0,0,0,0,1,0,0,0,0,0,0,0,0,0,0,0,0,0,0,0,10,0,0,0,0,0,0,0,0,0,0,0,0,0,0,0,0,0,0,0,0,0,0,0,0,0,0,0,0,0,0,0,0,0,0,0,0,0,0,0,0]),
 (371,yb 5 false [0,0,0,0,0,0,0,1,0,0,0,0,0,0,0,0,0,0,0,0,0,0,0,12,0,0,0,0,0,0,0,1,0,0,0,0,0,0,0,1,0,0,0,0,0,0,0,0,0,0,0,0,0,0,0,0,0,0,0,0,0,0,0,80]),
 (377,yb 5 false [0,0,0,0,0,0,0,1,0,0,0,0,0,0,0,0,0,0,0,0,0,0,0,14,0,0,0,0,0,0,0,0,0,0,0,0,0,0,0,64,0,0,0,0,0,0,0,1,0,0,0,0,0,0,0,0,0,0,0,0,0,0,0,0]),
 (383,yb 5 false [0,0,0,0,0,0,0,1,0,0,0,0,0,0,0,0,0,0,0,0,0,0,0,16,0,0,0,0,0,0,0,0,0,0,0,0,0,0,0,0,0,0,0,0,0,0,0,0,0,0,0,0,0,0,0,0,0,0,0,0,0,0,0,0]),
 (389,yb 5 false [0,0,0,0,0,0,0,1,0,0,0,0,0,0,0,0,0,0,0,0,0,0,0,19,0,0,0,0,0,0,0,0]),
 (397,yb 5 false [0,0,0,0,0,0,0,1,0,0,0,0,0,0,0,0,0,0,0,0,0,0,0,0,0,0,0,0,0,0,0,2,0,0,0,0,0,0,0,0,0,0,0,0,0,0,0,0,0,0,0,0,0,0,0,0,0,0,0,0,0,0,0,0]),
 (400,cb 357 true [.p 5 0,i 4096,i 8192,i 1,i 0])]
def L2 :Hl:=[(3,.mp [(i 2049,.ag [.sl 341 0 64 0 false,.b false],0),(i 2050,.ag [.sl 347 0 64 0 false,.b false],1),(i 2051,.ag [.sl 353 0 64 0 false,.b false],2),(i 2052,.ag [.sl 359 0 64 0 false,.b false],3),(i 2053,.ag [.sl 365 0 64 0 false,.b false],4),(i 2054,.ag [.sl 371 0 64 0 false,.b false],5),(i 2055,.ag [.sl 377 0 64 0 false,.b false],6),(i 2056,.ag [.sl 383 0 64 0 false,.b false],7),(i 2057,.ag [.sl 389 0 32 0 false,.b false],8),(i 2048,.ag [.sl 397 0 64 0 false,.b false],9),(i 4096,.ag [.sl 2498 0 64 0 false,.b false],10),(i 4097,.ag [.sl 2504 0 64 0 false,.b false],11),(i 4098,.ag [.sl 2510 0 64 0 false,.b false],12),(i 4099,.ag [.sl 2516 0 64 0 false,.b false],13),(i 4100,.ag [.sl 2522 0 64 0 false,.b false],14),(i 4101,.ag [.sl 2528 0 64 0 false,.b false],15),(i 4102,.ag [.sl 2534 0 64 0 false,.b false],16),(i 4103,.ag [.sl 2540 0 64 0 false,.b false],17),(i 4104,.ag [.sl 2546 0 64 0 false,.b false],18),(i 4105,.ag [.sl 2552 0 64 0 false,.b false],19),(i 4106,.ag [.sl 2558 0 64 0 false,.b false],20),(i 4107,.ag [.sl 2564 0 64 0 false,.b false],21),(i 4108,.ag [.sl 2570 0 64 0 false,.b false],22),(i 4109,.ag [.sl 2576 0 64 0 false,.b false],23),(i 4110,.ag [.sl 2582 0 64 0 false,.b false],24)] 25),
 (4,.mp [] 25),
 (5,cb 93 true [i 8192,.m 3,.m 4,.b false,.b false,i 0]),
 (98,cb 222 true [.p 400 0,.p 5 0,i 2048,i 1,.b false]),
 (106,.mp [(i 0,.p 142 0,0),(i 1,.p 207 0,1)] 2),
 (107,.mp [] 0),
 (108,cb 109 true [i 1,i 1,.p 98 0,i 1,.sl 2197 0 2 0 false,.ns,.m 106,.m 107,.b false,.ns,.ns]),
 (142,cb 183 true [i 1,i 0,i 1,.p 173 0,.it 156 (.ag [.sl 153 0 1 0 false,i 1,i 0,i 0,i 0,i 0,i 0,.ns]),.ns,.ns,.m 1160,.ns,.ns,.ns,.ns,i 0,.b false]),
 (153,cb 60 false [i 0,i 64,i 1,i 1]),
 (170,cb 3 false [i 1]),
 (172,yb 5 false [0,0,0,0,0,0,0,1,0,0,0,0,0,0,0,0,0,0,0,0,0,0,0,64,0,0,0,0,0,0,0,1,0,0,0,0,0,0,0,1,0,0,0,0,0,0,0,1,0,0,0,0,0,0,0,0,0,0,0,0,0,0,0,0,0,0,0,0,0,0,0,0,0,0,0,0,0,0,0,0,0,0,0,0,0,0,0,0,0,0,0,0,0,0,0,0]),
 (173,cb 297 true [i 1,i 0,i 1,i 1,i 0,i 0,.sl 1091 0 1 0 false,.sl 170 0 1 0 false,.ns,.ns,.sl 172 0 96 0 false,i 1,i 1,i 2,i 1,i 0,i 10,.ns,.ns,i 0,i 0]),
 (207,cb 183 true [i 1,i 1,i 1,.p 231 0,.it 74 (.ag [i 0,i 64,i 1,.ns,.ns,.ns,.ns,.sl 218 0 0 0 true,.ns,.ns]),.ns,.ns,.m 1350,.ns,.ns,.ns,.ns,i 0,.b false]),
 (218,cb 3 true []),
 (228,cb 3 false [i 1]),
 (230,yb 5 false [0,0,0,0,0,0,0,0,0,0,0,0,0,0,0,64,0,0,0,0,0,0,0,1,0,0,0,0,0,0,0,0,0,0,0,0,0,0,0,0,0,0,0,0,0,0,0,0,0,0,0,0,0,0,0,0,0,0,0,0,0,0,0,0,0,0,0,0,0,0,0,0,0,0,0,0,0,0,0,0]),
 (231,cb 297 true [i 1,i 1,i 1,i 1,i 0,i 0,.sl 1281 0 1 0 false,.sl 228 0 1 0 false,.ns,.ns,.sl 230 0 80 0 false,i 1,i 1,i 2,i 1,i 0,i 10,.ns,.ns,i 0,i 0]),
 (341,yb 5 false [0,0,0,0,0,0,0,1,0,0,0,0,0,0,0,0,0,0,0,0,0,0,0,2,0,0,0,0,0,0,0,0,0,0,0,0,0,0,0,0,0,0,0,0,0,0,0,1,0,0,0,0,0,0,0,1,0,0,0,0,0,0,0,0]),
 (347,yb 5 false [0,0,0,0,0,0,0,1,0,0,0,0,0,0,0,0,0,0,0,0,0,0,0,4,0,0,0,0,0,0,0,0,0,0,0,0,0,0,0,96,0,0,0,0,0,0,0,1,0,0,0,0,0,0,0,0,0,0,0,0,0,0,0,64]),
 (353,yb 5 false [0,0,0,0,0,0,0,1,0,0,0,0,0,0,0,0,0,0,0,0,0,0,0,6,0,0,0,0,0,0,0,1,0,0,0,0,0,0,0,1,0,0,0,0,0,0,0,1,0,0,0,0,0,0,0,0,0,0,0,0,0,0,0,0]),
 (359,yb 5 false [0,0,0,0,0,0,0,1,0,0,0,0,0,0,0,0,0,0,0,0,0,0,0,8,0,0,0,0,0,0,0,0,0,0,0,0,0,0,0,0,0,0,0,0,0,0,0,0,0,0,0,0,0,0,0,0,0,0,0,0,0,0,0,1]),
 (365,yb 5 false [0,0,0,0,0,0,0,1,0,0,0,0,0,0,0,0,0,0,0,0,0,0,0,10,0,0,0,0,0,0,0,0,0,0,0,0,0,0,0,0,0,0,0,0,0,0,0,0,0,0,0,0,0,0,0,0,0,0,0,0,0,0,0,0]),
 (371,yb 5 false [0,0,0,0,0,0,0,1,0,0,0,0,0,0,0,0,0,0,0,0,0,0,0,12,0,0,0,0,0,0,0,1,0,0,0,0,0,0,0,1,0,0,0,0,0,0,0,0,0,0,0,0,0,0,0,0,0,0,0,0,0,0,0,80]),
 (377,yb 5 false [0,0,0,0,0,0,0,1,0,0,0,0,0,0,0,0,0,0,0,0,0,0,0,14,0,0,0,0,0,0,0,0,0,0,0,0,0,0,0,64,0,0,0,0,0,0,0,1,0,0,0,0,0,0,0,0,0,0,0,0,0,0,0,0]),
 (383,yb 5 false [0,0,0,0,0,0,0,1,0,0,0,0,0,0,0,0,0,0,0,0,0,0,0,16,0,0,0,0,0,0,0,0,0,0,0,0,0,0,0,0,0,0,0,0,0,0,0,0,0,0,0,0,0,0,0,0,0,0,0,0,0,0,0,0]),
 (389,yb 5 false [0,0,0,0,0,0,0,1,0,0,0,0,0,0,0,0,0,0,0,0,0,0,0,19,0,0,0,0,0,0,0,0]),
 (397,yb 5 false [0,0,0,0,0,0,0,1,0,0,0,0,0,0,0,0,0,0,0,0,0,0,0,0,0,0,0,0,0,0,0,2,0,0,0,0,0,0,0,0,0,0,0,0,0,0,0,0,0,0,0,0,0,0,0,0,0,0,0,0,0,0,0,0]),
 (400,cb 357 true [.p 5 0,i 4111,i 8192,i 1,i 1]),
 (1088,cb 5 true []),
 (1091,cb 98 false [i 1,i 0,.sl 1088 0 0 0 true]),
 (1160,.mp [] 0),
 (1278,cb 5 true []),
 (1281,cb 98 false [i 1,i 0,.sl 1278 0 0 0 true]),
 (1350,.mp [] 0),
 (2171,yb 5 false [0,0,0,0,0,0,0,2,0,0,0,0,0,0,0,0,0,0,0,0,0,0,0,1,0,0,0,0,0,0,0,1,0,0,0,0,0,0,0,0,0,0,0,0,0,0,0,0,0,0,0,0,0,0,0,1,0,0,0,0,0,0,0,1,0,0,0,0,0,0,0,0,0,0,0,0,0,0,0,0,0,0,0,0,0,0,0,1,0,0,0,0,0,0,0,1,0,0,0,0,0,0,0,0,0,0,0,0,0,0,0,0,0,0,0,0,0,0,0,96,0,0,0,0,0,0,0,1,0,0,0,0,0,0,0,0,0,0,0,0,0,0,0,64,0,0,0,0,0,0,0,1,0,0,0,0,0,0,0,1,0,0,0,0,0,0,0,1,0,0,0,0,0,0,0,0,0,0,0,0,0,0,0,0,0,0,0,0,0,0,0,0,0,0,0,0,0,0,0,0,0,0,0,0,0,0,0,0,0,0,0,0,0,0,0,0,0,0,0,0,0,0,0,1,0,0,0,0,0,0,0,1,0,0,0,0,0,0,0,1,0,0,0,0,0,0,0,0,0,0,0,0,0,0,0,0,0,0,0,0,0,0,0,0,0,0,0,0,0,0,0,1,0,0,0,0,0,0,0,1,0,0,0,0,0,0,0,0,0,0,0,0,0,0,0,0,0,0,0,0,0,0,0,80,0,0,0,0,0,0,0,0,0,0,0,0,0,0,0,64,0,0,0,0,0,0,0,1,0,0,0,0,0,0,0,0,0,0,0,0,0,0,0,0,0,0,0,0,0,0,0,0,0,0,0,0,0,0,0,0,0,0,0,0,0,0,0,0,0,0,0,0,0,0,0,0,0,0,0,0,0,0,0,0,0,0,0,0,0,0,0,0]),
 (2181,cb 98 false [i 1,i 0,.sl 2171 80 0 0 true]),
 (2183,cb 3 true [i 1]),
 (2184,cb 3 true []),
 (2185,cb 3 true []),
 (2193,cb 3 true [i 1]),
 (2194,cb 3 true []),
 (2195,cb 3 true []),
 (2197,cb 145 false [i 0,i 1,i 1,i 0,i 0,.sl 2181 0 1 0 false,.sl 2183 0 1 1 true,.sl 2184 0 0 0 true,.sl 2185 0 0 0 true,.sl 2171 120 96 96 true,i 1,i 1,i 1,i 0,i 0,.sl 2276 0 1 0 false,.sl 2193 0 1 1 true,.sl 2194 0 0 0 true,.sl 2195 0 0 0 true,.sl 2171 304 80 80 true]),
 (2256,yb 5 false [0,0,0,0,0,0,0,2,0,0,0,0,0,0,0,1,0,0,0,0,0,0,0,0,0,0,0,0,0,0,0,0,0,0,0,0,0,0,0,1,0,0,0,0,0,0,0,0,0,0,0,0,0,0,0,0,0,0,0,0,0,0,0,1,0,0,0,0,0,0,0,1,0,0,0,0,0,0,0,0,0,0,0,0,0,0,0,0,0,0,0,0,0,0,0,0,0,0,0,0,0,0,0,0,0,0,0,0,0,0,0,0,0,0,0,0,0,0,0,0,0,0,0,0,0,0,0,0,0,0,0,0,0,0,0,0,0,0,0,0,0,0,0,0,0,0,0,0,0,0,0,0,0,0,0,0,0,0,0,0]),
 (2276,cb 98 false [i 1,i 0,.sl 2256 88 0 0 true]),
 (2498,yb 5 false [0,0,0,0,0,0,0,1,0,0,0,0,0,0,0,1,0,0,0,0,0,0,0,0,0,0,0,0,0,0,0,4,0,0,0,0,0,0,0,1,0,0,0,0,0,0,0,0,0,0,0,0,0,0,0,1,0,0,0,0,0,0,0,1]),
 (2504,yb 5 false [0,0,0,0,0,0,0,1,0,0,0,0,0,0,0,1,0,0,0,0,0,0,0,2,0,0,0,0,0,0,0,0,0,0,0,0,0,0,0,0,0,0,0,0,0,0,0,0,0,0,0,0,0,0,0,0,0,0,0,0,0,0,0,0]),
 (2510,yb 5 false [0,0,0,0,0,0,0,1,0,0,0,0,0,0,0,1,0,0,0,0,0,0,0,4,0,0,0,0,0,0,0,0,0,0,0,0,0,0,0,0,0,0,0,0,0,0,0,0,0,0,0,0,0,0,0,0,0,0,0,0,0,0,0,0]),
 (2516,yb 5 false [0,0,0,0,0,0,0,1,0,0,0,0,0,0,0,1,0,0,0,0,0,0,0,6,0,0,0,0,0,0,0,0,0,0,0,0,0,0,0,0,0,0,0,0,0,0,0,0,0,0,0,0,0,0,0,2,0,0,0,0,0,0,0,0]),
 (2522,yb 5 false [0,0,0,0,0,0,0,1,0,0,0,0,0,0,0,1,0,0,0,0,0,0,0,8,0,0,0,0,0,0,0,0,0,0,0,0,0,0,0,0,0,0,0,0,0,0,0,1,0,0,0,0,0,0,0,0,0,0,0,0,0,0,0,0]),
 (2528,yb 5 false [0,0,0,0,0,0,0,1,0,0,0,0,0,0,0,1,0,0,0,0,0,0,0,10,0,0,0,0,0,0,0,1,0,0,0,0,0,0,0,1,0,0,0,0,0,0,0,0,0,0,0,0,0,0,0,0,0,0,0,0,0,0,0,0]),
 (2534,yb 5 false [0,0,0,0,0,0,0,1,0,0,0,0,0,0,0,1,0,0,0,0,0,0,0,12,0,0,0,0,0,0,0,0,0,0,0,0,0,0,0,0,0,0,0,0,0,0,0,0,0,0,0,0,0,0,0,0,0,0,0,0,0,0,0,0]),
 (2540,yb 5 false [0,0,0,0,0,0,0,1,0,0,0,0,0,0,0,1,0,0,0,0,0,0,0,14,0,0,0,0,0,0,0,0,0,0,0,0,0,0,0,0,0,0,0,0,0,0,0,0,0,0,0,0,0,0,0,1,0,0,0,0,0,0,0,1]),
 (2546,yb 5 false [0,0,0,0,0,0,0,1,0,0,0,0,0,0,0,1,0,0,0,0,0,0,0,16,0,0,0,0,0,0,0,1,0,0,0,0,0,0,0,1,0,0,0,0,0,0,0,0,0,0,0,0,0,0,0,0,0,0,0,0,0,0,0,0]),
 (2552,yb 5 false [0,0,0,0,0,0,0,1,0,0,0,0,0,0,0,1,0,0,0,0,0,0,0,18,0,0,0,0,0,0,0,0,0,0,0,0,0,0,0,0,0,0,0,0,0,0,0,0,0,0,0,0,0,0,0,0,0,0,0,0,0,0,0,0]),
 (2558,yb 5 false [0,0,0,0,0,0,0,1,0,0,0,0,0,0,0,1,0,0,0,0,0,0,0,20,0,0,0,0,0,0,0,0,0,0,0,0,0,0,0,0,0,0,0,0,0,0,0,0,0,0,0,0,0,0,0,0,0,0,0,0,0,0,0,0]),
 (2564,yb 5 false [0,0,0,0,0,0,0,1,0,0,0,0,0,0,0,1,0,0,0,0,0,0,0,22,0,0,0,0,0,0,0,2,0,0,0,0,0,0,0,1,0,0,0,0,0,0,0,0,0,0,0,0,0,0,0,0,0,0,0,0,0,0,0,1]),
 (2570,yb 5 false [0,0,0,0,0,0,0,1,0,0,0,0,0,0,0,1,0,0,0,0,0,0,0,24,0,0,0,0,0,0,0,0,0,0,0,0,0,0,0,0,0,0,0,0,0,0,0,1,0,0,0,0,0,0,0,1,0,0,0,0,0,0,0,0]),
 (2576,yb 5 false [0,0,0,0,0,0,0,1,0,0,0,0,0,0,0,1,0,0,0,0,0,0,0,26,0,0,0,0,0,0,0,0,0,0,0,0,0,0,0,0,0,0,0,0,0,0,0,0,0,0,0,0,0,0,0,0,0,0,0,0,0,0,0,0]),
 (2582,yb 5 false [0,0,0,0,0,0,0,1,0,0,0,0,0,0,0,1,0,0,0,0,0,0,0,29,0,0,0,0,0,0,0,0,0,0,0,0,0,0,0,0,0,0,0,0,0,0,0,0,0,0,0,0,0,0,0,0,0,0,0,0,0,0,0,0])]
def c1 :Ck:=⟨22,[.p 108 0,i 0],1022,L1,.ns,2585,L2⟩
theorem c1_run :isG (ckRun TTn FTn SMn 1000 c1)=true:=by kernel_rfl
theorem c1_ok :jK Tryz.prog 22 (F_ck c1):=ckn (c:=c1) ⟨(inferInstance:Fun Tryz.prog 22)⟩ vS c1_run
end
end Ab
namespace Ab
noncomputable section
def L0 :Hl:=[(3,.mp [] 0),
 (4,.mp [] 0),
 (5,cb 93 true [i 8192,.m 3,.m 4,.b false,.b false,i 0])]
def L5 :Hl:=[(3,.mp [(i 2049,.ag [.sl 341 0 64 0 false,.b false],0),(i 2050,.ag [.sl 347 0 64 0 false,.b false],1),(i 2051,.ag [.sl 353 0 64 0 false,.b false],2),(i 2052,.ag [.sl 359 0 64 0 false,.b false],3),(i 2053,.ag [.sl 365 0 64 0 false,.b false],4),(i 2054,.ag [.sl 371 0 64 0 false,.b false],5),(i 2055,.ag [.sl 377 0 64 0 false,.b false],6),(i 2056,.ag [.sl 383 0 64 0 false,.b false],7),(i 2057,.ag [.sl 389 0 32 0 false,.b false],8),(i 2048,.ag [.sl 397 0 64 0 false,.b false],9),(i 4096,.ag [.sl 2498 0 64 0 false,.b false],10),(i 4097,.ag [.sl 2504 0 64 0 false,.b false],11),(i 4098,.ag [.sl 2510 0 64 0 false,.b false],12),(i 4099,.ag [.sl 2516 0 64 0 false,.b false],13),(i 4100,.ag [.sl 2522 0 64 0 false,.b false],14),(i 4101,.ag [.sl 2528 0 64 0 false,.b false],15),(i 4102,.ag [.sl 2534 0 64 0 false,.b false],16),(i 4103,.ag [.sl 2540 0 64 0 false,.b false],17),(i 4104,.ag [.sl 2546 0 64 0 false,.b false],18),(i 4105,.ag [.sl 2552 0 64 0 false,.b false],19),(i 4106,.ag [.sl 2558 0 64 0 false,.b false],20),(i 4107,.ag [.sl 2564 0 64 0 false,.b false],21),(i 4108,.ag [.sl 2570 0 64 0 false,.b false],22),(i 4109,.ag [.sl 2576 0 64 0 false,.b false],23),(i 4110,.ag [.sl 2582 0 64 0 false,.b false],24)] 25),
 (4,.mp [] 25),
 (5,cb 93 true [i 8192,.m 3,.m 4,.b false,.b false,i 0]),
 (98,cb 222 true [.p 400 0,.p 5 0,i 2048,i 1,.b false]),
 (106,.mp [(i 0,.p 142 0,0),(i 1,.p 207 0,1)] 2),
 (107,.mp [] 0),
 (108,cb 109 true [i 1,i 1,.p 98 0,i 1,.sl 2197 0 2 0 false,.ns,.m 106,.m 107,.b false,.ns,.ns]),
 (142,cb 183 true [i 1,i 0,i 1,.p 173 0,.it 156 (.ag [.sl 153 0 1 0 false,i 1,i 0,i 0,i 0,i 0,i 0,.ns]),.ns,.ns,.m 1160,.ns,.ns,.ns,.ns,i 0,.b false]),
 (153,cb 60 false [i 0,i 64,i 1,i 1]),
 (170,cb 3 false [i 1]),
 (172,yb 5 false [0,0,0,0,0,0,0,1,0,0,0,0,0,0,0,0,0,0,0,0,0,0,0,64,0,0,0,0,0,0,0,1,0,0,0,0,0,0,0,1,0,0,0,0,0,0,0,1,0,0,0,0,0,0,0,0,0,0,0,0,0,0,0,0,0,0,0,0,0,0,0,0,0,0,0,0,0,0,0,0,0,0,0,0,0,0,0,0,0,0,0,0,0,0,0,0]),
 (173,cb 297 true [i 1,i 0,i 1,i 1,i 0,i 0,.sl 1091 0 1 0 false,.sl 170 0 1 0 false,.ns,.ns,.sl 172 0 96 0 false,i 1,i 1,i 2,i 1,i 0,i 10,.ns,.ns,i 0,i 0]),
 (207,cb 183 true [i 1,i 1,i 1,.p 231 0,.it 74 (.ag [i 0,i 64,i 1,.ns,.ns,.ns,.ns,.sl 218 0 0 0 true,.ns,.ns]),.ns,.ns,.m 1350,.ns,.ns,.ns,.ns,i 0,.b false]),
 (218,cb 3 true []),
 (228,cb 3 false [i 1]),
 (230,yb 5 false [0,0,0,0,0,0,0,0,0,0,0,0,0,0,0,64,0,0,0,0,0,0,0,1,0,0,0,0,0,0,0,0,0,0,0,0,0,0,0,0,0,0,0,0,0,0,0,0,0,0,0,0,0,0,0,0,0,0,0,0,0,0,0,0,0,0,0,0,0,0,0,0,0,0,0,0,0,0,0,0]),
 (231,cb 297 true [i 1,i 1,i 1,i 1,i 0,i 0,.sl 1281 0 1 0 false,.sl 228 0 1 0 false,.ns,.ns,.sl 230 0 80 0 false,i 1,i 1,i 2,i 1,i 0,i 10,.ns,.ns,i 0,i 0]),
 (341,yb 5 false [0,0,0,0,0,0,0,1,0,0,0,0,0,0,0,0,0,0,0,0,0,0,0,2,0,0,0,0,0,0,0,0,0,0,0,0,0,0,0,0,0,0,0,0,0,0,0,1,0,0,0,0,0,0,0,1,0,0,0,0,0,0,0,0]),
 (347,yb 5 false [0,0,0,0,0,0,0,1,0,0,0,0,0,0,0,0,0,0,0,0,0,0,0,4,0,0,0,0,0,0,0,0,0,0,0,0,0,0,0,96,0,0,0,0,0,0,0,1,0,0,0,0,0,0,0,0,0,0,0,0,0,0,0,64]),
 (353,yb 5 false [0,0,0,0,0,0,0,1,0,0,0,0,0,0,0,0,0,0,0,0,0,0,0,6,0,0,0,0,0,0,0,1,0,0,0,0,0,0,0,1,0,0,0,0,0,0,0,1,0,0,0,0,0,0,0,0,0,0,0,0,0,0,0,0]),
 (359,yb 5 false [0,0,0,0,0,0,0,1,0,0,0,0,0,0,0,0,0,0,0,0,0,0,0,8,0,0,0,0,0,0,0,0,0,0,0,0,0,0,0,0,0,0,0,0,0,0,0,0,0,0,0,0,0,0,0,0,0,0,0,0,0,0,0,1]),
 (365,yb 5 false [0,0,0,0,0,0,0,1,0,0,0,0,0,0,0,0,0,0,0,0,0,0,0,10,0,0,0,0,0,0,0,0,0,0,0,0,0,0,0,0,0,0,0,0,0,0,0,0,0,0,0,0,0,0,0,0,0,0,0,0,0,0,0,0]),
 (371,yb 5 false [0,0,0,0,0,0,0,1,0,0,0,0,0,0,0,0,0,0,0,0,0,0,0,12,0,0,0,0,0,0,0,1,0,0,0,0,0,0,0,1,0,0,0,0,0,0,0,0,0,0,0,0,0,0,0,0,0,0,0,0,0,0,0,80]),
 (377,yb 5 false [0,0,0,0,0,0,0,1,0,0,0,0,0,0,0,0,0,0,0,0,0,0,0,14,0,0,0,0,0,0,0,0,0,0,0,0,0,0,0,64,0,0,0,0,0,0,0,1,0,0,0,0,0,0,0,0,0,0,0,0,0,0,0,0]),
 (383,yb 5 false [0,0,0,0,0,0,0,1,0,0,0,0,0,0,0,0,0,0,0,0,0,0,0,16,0,0,0,0,0,0,0,0,0,0,0,0,0,0,0,0,0,0,0,0,0,0,0,0,0,0,0,0,0,0,0,0,0,0,0,0,0,0,0,0]),
 (389,yb 5 false [0,0,0,0,0,0,0,1,0,0,0,0,0,0,0,0,0,0,0,0,0,0,0,19,0,0,0,0,0,0,0,0]),
 (397,yb 5 false [0,0,0,0,0,0,0,1,0,0,0,0,0,0,0,0,0,0,0,0,0,0,0,0,0,0,0,0,0,0,0,2,0,0,0,0,0,0,0,0,0,0,0,0,0,0,0,0,0,0,0,0,0,0,0,0,0,0,0,0,0,0,0,0]),
 (400,cb 357 true [.p 5 0,i 4111,i 8192,i 1,i 1]),
 (1088,cb 5 true []),
 (1091,cb 98 false [i 1,i 0,.sl 1088 0 0 0 true]),
 (1160,.mp [] 0),
 (1278,cb 5 true []),
 (1281,cb 98 false [i 1,i 0,.sl 1278 0 0 0 true]),
 (1350,.mp [] 0),
 (2171,yb 5 false [0,0,0,0,0,0,0,2,0,0,0,0,0,0,0,0,0,0,0,0,0,0,0,1,0,0,0,0,0,0,0,1,0,0,0,0,0,0,0,0,0,0,0,0,0,0,0,0,0,0,0,0,0,0,0,1,0,0,0,0,0,0,0,1,0,0,0,0,0,0,0,0,0,0,0,0,0,0,0,0,0,0,0,0,0,0,0,1,0,0,0,0,0,0,0,1,0,0,0,0,0,0,0,0,0,0,0,0,0,0,0,0,0,0,0,0,0,0,0,96,0,0,0,0,0,0,0,1,0,0,0,0,0,0,0,0,0,0,0,0,0,0,0,64,0,0,0,0,0,0,0,1,0,0,0,0,0,0,0,1,0,0,0,0,0,0,0,1,0,0,0,0,0,0,0,0,0,0,0,0,0,0,0,0,0,0,0,0,0,0,0,0,0,0,0,0,0,0,0,0,0,0,0,0,0,0,0,0,0,0,0,0,0,0,0,0,0,0,0,0,0,0,0,1,0,0,0,0,0,0,0,1,0,0,0,0,0,0,0,1,0,0,0,0,0,0,0,0,0,0,0,0,0,0,0,0,0,0,0,0,0,0,0,0,0,0,0,0,0,0,0,1,0,0,0,0,0,0,0,1,0,0,0,0,0,0,0,0,0,0,0,0,0,0,0,0,0,0,0,0,0,0,0,80,0,0,0,0,0,0,0,0,0,0,0,0,0,0,0,64,0,0,0,0,0,0,0,1,0,0,0,0,0,0,0,0,0,0,0,0,0,0,0,0,0,0,0,0,0,0,0,0,0,0,0,0,0,0,0,0,0,0,0,0,0,0,0,0,0,0,0,0,0,0,0,0,0,0,0,0,0,0,0,0,0,0,0,0,0,0,0,0]),
 (2181,cb 98 false [i 1,i 0,.sl 2171 80 0 0 true]),
 (2183,cb 3 true [i 1]),
 (2184,cb 3 true []),
 (2185,cb 3 true []),
 (2193,cb 3 true [i 1]),
 (2194,cb 3 true []),
 (2195,cb 3 true []),
 (2197,cb 145 false [i 0,i 1,i 1,i 0,i 0,.sl 2181 0 1 0 false,.sl 2183 0 1 1 true,.sl 2184 0 0 0 true,.sl 2185 0 0 0 true,.sl 2171 120 96 96 true,i 1,i 1,i 1,i 0,i 0,.sl 2276 0 1 0 false,.sl 2193 0 1 1 true,.sl 2194 0 0 0 true,.sl 2195 0 0 0 true,.sl 2171 304 80 80 true]),
 (2256,yb 5 false [0,0,0,0,0,0,0,2,0,0,0,0,0,0,0,1,0,0,0,0,0,0,0,0,0,0,0,0,0,0,0,0,0,0,0,0,0,0,0,1,0,0,0,0,0,0,0,0,0,0,0,0,0,0,0,0,0,0,0,0,0,0,0,1,0,0,0,0,0,0,0,1,0,0,0,0,0,0,0,0,0,0,0,0,0,0,0,0,0,0,0,0,0,0,0,0,0,0,0,0,0,0,0,0,0,0,0,0,0,0,0,0,0,0,0,0,0,0,0,0,0,0,0,0,0,0,0,0,0,0,0,0,0,0,0,0,0,0,0,0,0,0,0,0,0,0,0,0,0,0,0,0,0,0,0,0,0,0,0,0]),
 (2276,cb 98 false [i 1,i 0,.sl 2256 88 0 0 true]),
 (2498,yb 5 false [0,0,0,0,0,0,0,1,0,0,0,0,0,0,0,1,0,0,0,0,0,0,0,0,0,0,0,0,0,0,0,4,0,0,0,0,0,0,0,1,0,0,0,0,0,0,0,0,0,0,0,0,0,0,0,1,0,0,0,0,0,0,0,1]),
 (2504,yb 5 false [0,0,0,0,0,0,0,1,0,0,0,0,0,0,0,1,0,0,0,0,0,0,0,2,0,0,0,0,0,0,0,0,0,0,0,0,0,0,0,0,0,0,0,0,0,0,0,0,0,0,0,0,0,0,0,0,0,0,0,0,0,0,0,0]),
 (2510,yb 5 false [0,0,0,0,0,0,0,1,0,0,0,0,0,0,0,1,0,0,0,0,0,0,0,4,0,0,0,0,0,0,0,0,0,0,0,0,0,0,0,0,0,0,0,0,0,0,0,0,0,0,0,0,0,0,0,0,0,0,0,0,0,0,0,0]),
 (2516,yb 5 false [0,0,0,0,0,0,0,1,0,0,0,0,0,0,0,1,0,0,0,0,0,0,0,6,0,0,0,0,0,0,0,0,0,0,0,0,0,0,0,0,0,0,0,0,0,0,0,0,0,0,0,0,0,0,0,2,0,0,0,0,0,0,0,0]),
 (2522,yb 5 false [0,0,0,0,0,0,0,1,0,0,0,0,0,0,0,1,0,0,0,0,0,0,0,8,0,0,0,0,0,0,0,0,0,0,0,0,0,0,0,0,0,0,0,0,0,0,0,1,0,0,0,0,0,0,0,0,0,0,0,0,0,0,0,0]),
 (2528,yb 5 false [0,0,0,0,0,0,0,1,0,0,0,0,0,0,0,1,0,0,0,0,0,0,0,10,0,0,0,0,0,0,0,1,0,0,0,0,0,0,0,1,0,0,0,0,0,0,0,0,0,0,0,0,0,0,0,0,0,0,0,0,0,0,0,0]),
 (2534,yb 5 false [0,0,0,0,0,0,0,1,0,0,0,0,0,0,0,1,0,0,0,0,0,0,0,12,0,0,0,0,0,0,0,0,0,0,0,0,0,0,0,0,0,0,0,0,0,0,0,0,0,0,0,0,0,0,0,0,0,0,0,0,0,0,0,0]),
 (2540,yb 5 false [0,0,0,0,0,0,0,1,0,0,0,0,0,0,0,1,0,0,0,0,0,0,0,14,0,0,0,0,0,0,0,0,0,0,0,0,0,0,0,0,0,0,0,0,0,0,0,0,0,0,0,0,0,0,0,1,0,0,0,0,0,0,0,1]),
 (2546,yb 5 false [0,0,0,0,0,0,0,1,0,0,0,0,0,0,0,1,0,0,0,0,0,0,0,16,0,0,0,0,0,0,0,1,0,0,0,0,0,0,0,1,0,0,0,0,0,0,0,0,0,0,0,0,0,0,0,0,0,0,0,0,0,0,0,0]),
 (2552,yb 5 false [0,0,0,0,0,0,0,1,0,0,0,0,0,0,0,1,0,0,0,0,0,0,0,18,0,0,0,0,0,0,0,0,0,0,0,0,0,0,0,0,0,0,0,0,0,0,0,0,0,0,0,0,0,0,0,0,0,0,0,0,0,0,0,0]),
 (2558,yb 5 false [0,0,0,0,0,0,0,1,0,0,0,0,0,0,0,1,0,0,0,0,0,0,0,20,0,0,0,0,0,0,0,0,0,0,0,0,0,0,0,0,0,0,0,0,0,0,0,0,0,0,0,0,0,0,0,0,0,0,0,0,0,0,0,0]),
 (2564,yb 5 false [0,0,0,0,0,0,0,1,0,0,0,0,0,0,0,1,0,0,0,0,0,0,0,22,0,0,0,0,0,0,0,2,0,0,0,0,0,0,0,1,0,0,0,0,0,0,0,0,0,0,0,0,0,0,0,0,0,0,0,0,0,0,0,1]),
 (2570,yb 5 false [0,0,0,0,0,0,0,1,0,0,0,0,0,0,0,1,0,0,0,0,0,0,0,24,0,0,0,0,0,0,0,0,0,0,0,0,0,0,0,0,0,0,0,0,0,0,0,1,0,0,0,0,0,0,0,1,0,0,0,0,0,0,0,0]),
 (2576,yb 5 false [0,0,0,0,0,0,0,1,0,0,0,0,0,0,0,1,0,0,0,0,0,0,0,26,0,0,0,0,0,0,0,0,0,0,0,0,0,0,0,0,0,0,0,0,0,0,0,0,0,0,0,0,0,0,0,0,0,0,0,0,0,0,0,0]),
 (2582,yb 5 false [0,0,0,0,0,0,0,1,0,0,0,0,0,0,0,1,0,0,0,0,0,0,0,29,0,0,0,0,0,0,0,0,0,0,0,0,0,0,0,0,0,0,0,0,0,0,0,0,0,0,0,0,0,0,0,0,0,0,0,0,0,0,0,0])]
def SMt :T jJ:=SMn.put (F_or (F_ck c1) (F_run TTn FTn SMn 1000 22)) 22
theorem SMt_ok :SOk Tryz.prog SMt:=SOk.put vS (vR c1_ok (runn ⟨(inferInstance:Fun Tryz.prog 22)⟩ vS))
def c0 :Ck:=⟨6,[.p 5 0],78,L0,.p 108 0,2585,L5⟩
theorem c0_run :isG (ckRun TTn FTn SMt 1000 c0)=true:=by kernel_rfl
theorem c0_ok :jK Tryz.prog 6 (F_ck c0):=ckn (c:=c0) ⟨(inferInstance:Fun Tryz.prog 6)⟩ SMt_ok c0_run
end
end Ab
end Sl
end Go.Proofs.YtnkiahopaaibhaaGreat
