/-
  What clientReads.proved hangs on, part 4 of 5: EvVb, EvVc, EvVd, EvVf, EvVe, EvVg, ClS, ClG.
-/
import Derived.Test.YtfahijncpmlhjaaGreatRd3
import Derived.Test.YtfahijncpmlhjaaGreatRd2
set_option linter.unusedVariables false
set_option linter.unusedSimpArgs false
namespace Go.Proofs.YtfahijncpmlhjaaGreat
open Go Go.RowKit
namespace Sl
namespace Ab
noncomputable section
abbrev DL :=List (Nat × List AV × List AV)
abbrev KV :=Nat→AV→T AO→Nat→Nat
structure RT where
 mk ::
 rv:Bool→Nat→List AV→T AO→Nat→KV→Nat
 rw:Nat→Nat→Nat→T AO→Nat→KV→Nat
structure Mm where
 S:SL
 H:T AO
 nx:Nat
 D:DL
structure Cx where
 R:RT
 fk:Nat
abbrev K0 :=Nat→Mm→Nat
abbrev Ka :=Nat→Nat→Mm→Nat
abbrev FF :=Cx→Nat→Mm→K0→Ka→Nat
abbrev GG :=Cx→Nat→Mm→K0→Nat
structure Fn where
 mk ::
 run:FF
structure Gn where
 mk ::
 run:GG
def absS (E:Nat) (M:Mm):S:=⟨view E M.S,M.H,M.nx,M.D⟩
def stop (cx:Cx) (c:Nat) (d:Option Nat):Nat:=Nat.add (Nat.mul 1000000 (Nat.succ cx.fk)) (why c d)
theorem stop_ne (cx:Cx) (c:Nat) (d:Option Nat):stop cx c d≠1:=by
 have:stop cx c d=1000000*(cx.fk+1)+why c d:=rfl
 omega
def Mm.heap (M:Mm) (H:T AO) (nx:Nat):Mm:=⟨M.S,H,nx,M.D⟩
def inM (M:Mm) (f:SL→T AO→Nat→DL→Nat):Nat:=Mm.rec (motive:=fun _=>Nat) f M
def VW (w:Nat) (v' v:AV):Prop:=(w=255∧v'=v)∨WR w v
theorem enc_vw (v:AV):VW (enc v) v v:=(enc_wr v).imp (fun h=>⟨h,rfl⟩) id
def bigX (v:AV) (d:Nat) (E:Nat) (k:K0) (S:SL) (H:T AO) (nx:Nat) (D:DL):Nat:=k (putN E (offs d) 255) ⟨sput v d S,H,nx,D⟩
def putX (w:Nat) (v:AV) (d:Nat) (E:Nat) (M:Mm) (k:K0):Nat:=Bool.rec (motive:=fun _=>Nat) (k (putN E (offs d) w) M) (inM M (bigX v d E k)) (Nat.beq w 255)
theorem putX_ok {w:Nat} {v' v:AV} {d E:Nat} {M:Mm} {k:K0} (hw:VW w v' v) (h:putX w v' d E M k=1):∃ E' M',absS E' M'=⟨(view E M.S).put v d,M.H,M.nx,M.D⟩∧k E' M'=1:=by
 unfold putX at h
 rcases hw with ⟨rfl,rfl⟩|hw
 ·exact ⟨_,_,by unfold absS; simp only [view_big],h⟩
 ·rw [show Nat.beq w 255=false from Bool.eq_false_iff.2 fun e=>hw.1 (by rw [beq_t e]; rfl)] at h
  exact ⟨_,M,by unfold absS; simp only [view_small hw],h⟩
def putO (w:Nat) (v:AV):Option Nat→Nat→Mm→K0→Nat
 | none=>fun E M k=>k E M
 | some d=>fun E M k=>putX w v d E M k
theorem putO_ok {w:Nat} {v' v:AV} {E:Nat} {M:Mm} {k:K0} (hw:VW w v' v):∀ {o:Option Nat},putO w v' o E M k=1→∃ E' M',absS E' M'=⟨putT (view E M.S) o v,M.H,M.nx,M.D⟩∧k E' M'=1
 | none,h=>⟨E,M,rfl,h⟩
 | some d,h=>putX_ok hw h
def outK (cx:Cx) (o:Option Nat) (E:Nat) (M:Mm) (k:K0):Out→Nat
 | .val (v,H,nx)=>putO (enc v) v o E (M.heap H nx) k
 | .call f vs=>cx.R.rv true f vs M.H M.nx fun w v H nx=>putO w v o E (M.heap H nx) k
 | .dfr f cap vs=>putO 8 undA o E ⟨M.S,M.H,M.nx,(f,cap,vs)::M.D⟩ k
 | .bad=>stop cx 2 o
section
variable (TT:Nat→Option TI)
def genG (op:Op) (o:Option Nat):GG:=fun cx E M k=>outK cx o E M k (stepO TT (view E M.S) M.H M.nx op)
structure Wf where
 mk ::
 run:Nat→Mm→Nat
def fastK (w d:Nat) (g:GG) (cx:Cx) (E:Nat) (M:Mm) (k:K0):Nat:=Bool.rec (motive:=fun _=>Nat) (g cx E M k) (k (putN E (offs d) w) M) (tagOK w)
def fastG (f:Nat→Mm→Nat) (d:Nat) (g:GG):GG:=fun cx E M k=>fastK (f E M) d g cx E M k
def intK (t:TypeId):Option IntKind:=match undT TT t with
 | some (.int k)=>some k
 | _=>none
def bin2 (c:Nat) (f:Nat→Nat→Nat) (x y:Nat):Nat:=wB (twoK c x y) (f x y)
def binF (c:Nat) (f:Nat→Nat→Nat) (x y:Nat→Nat) (E:Nat) (_:Mm):Nat:=bin2 c f (x E) (y E)
def movF (x:Nat→Nat) (E:Nat) (_:Mm):Nat:=x E
def nil1 (x:Nat):Nat:=wB (Nat.beq (tagN x) 10) x
def nilF (x:Nat→Nat) (E:Nat) (_:Mm):Nat:=nil1 (x E)
def fld1 (f x:Nat):Nat:=wB (andB (Nat.beq (tagN x) 10) (small (Nat.add (f1 x) f))) (mkP (f0 x) (Nat.add (f1 x) f))
def fldF (f:Nat) (x:Nat→Nat) (E:Nat) (_:Mm):Nat:=fld1 f (x E)
def isSl (t:Nat):Bool:=Nat.beq (Nat.shiftRight (Nat.succ t) 1) 6
def ixOff (m x y:Nat):Nat:=Nat.add (f1 x) (Nat.mul (iw y) m)
def idx1 (m x y:Nat):Nat:=wB (andB (andB (Nat.beq (tagN y) 35) (Nat.blt (iw y) 9223372036854775808)) (andB (isSl (tagN x)) (andB (Nat.blt (iw y) (f2 x)) (small (ixOff m x y))))) (mkP (f0 x) (ixOff m x y))
def idxF (m:Nat) (x y:Nat→Nat) (E:Nat) (_:Mm):Nat:=idx1 m (x E) (y E)
def ida1 (m len x y:Nat):Nat:=wB (andB (andB (Nat.beq (tagN y) 35) (Nat.blt (iw y) 9223372036854775808)) (andB (Nat.beq (tagN x) 10) (andB (Nat.blt (iw y) len) (small (ixOff m x y))))) (mkP (f0 x) (ixOff m x y))
def idaF (m len:Nat) (x y:Nat→Nat) (E:Nat) (_:Mm):Nat:=ida1 m len (x E) (y E)
def len1 (x:Nat):Nat:=Bool.rec (motive:=fun _=>Nat) (wB (Nat.beq (Nat.land (tagN x) 251) 3) 35) (mkI 35 (f2 x)) (isSl (tagN x))
def lenF (x:Nat→Nat) (E:Nat) (_:Mm):Nat:=len1 (x E)
def not1 (x:Nat):Nat:=Bool.rec (motive:=fun _=>Nat) (wB (Nat.beq (tagN x) 9) 1) 9 (Nat.beq (tagN x) 1)
def notF (x:Nat→Nat) (E:Nat) (_:Mm):Nat:=not1 (x E)
def pick1 (c x y:Nat):Nat:=Bool.rec (motive:=fun _=>Nat) (wB (Nat.beq (tagN c) 1) y) x (Nat.beq (tagN c) 9)
def pickF (c x y:Nat→Nat) (E:Nat) (_:Mm):Nat:=pick1 (c E) (x E) (y E)
def cellC (off:Nat) (s:CT):Nat:=CT.rec (motive:=fun _=>Nat) (fun l=>encO (nthA l off)) (fun d t=>encO (orD (t.get off) d)) (fun w=>slot w (offs off)) (fun w t=>encO (orD (t.get off) (dec (slot w (offs off))))) s
def cellB (off:Nat) (o:AO):Nat:=AO.rec (motive:=fun _=>Nat) (fun _ n _ s=>wB (Nat.blt off n) (cellC off s)) (fun _ _=>0) (fun _ _ _=>0) o
def cellO (off:Nat) (o:Option AO):Nat:=Option.rec (motive:=fun _=>Nat) 0 (cellB off) o
def load1 (H:T AO) (p:Nat):Nat:=wB (Nat.beq (tagN p) 10) (cellO (f1 p) (H.get (f0 p)))
def loadF (x:Nat→Nat) (E:Nat) (M:Mm):Nat:=load1 M.H (x E)
def ext1 (k:Nat) (v:Option AV):Nat:=match v with
 | some (.tu l)=>encO (nthA l k)
 | _=>0
def extF (k t:Nat) (E:Nat) (M:Mm):Nat:=wB (Nat.beq (tagN (slot E (offs t))) 255) (ext1 k (sget M.S t))
def cvX (k d:IntKind) (x:Nat):Nat:=wB (Nat.beq (tagN x) (kc k)) (mkI (kc d) (cvI d k (iw x)))
def cvF (k d:IntKind) (x:Nat→Nat) (E:Nat) (_:Mm):Nat:=cvX k d (x E)
def fldO (t:TypeId) (k:Nat):Option Nat:=match undT TT t with
 | some (.struct fs)=>match fs[k]? with
  | none=>none
  | some f=>match sizT TT f.type with
   | none=>none
   | some m=>bif Nat.beq m 0 then none else some f.offset
 | _=>none
def shrX (k k2:IntKind) (x y:Nat):Nat:=wB (andB (andB (Nat.beq (tagN x) (kc k)) (Nat.beq (tagN y) (kc k2))) (andB (Nat.blt (iw y) (hfK k2)) (andB (Nat.blt (iw x) (hfK k)) (Nat.ble (iw y) 64)))) (mkI (kc k) (Nat.shiftRight (iw x) (iw y)))
def shlX (k k2:IntKind) (x y:Nat):Nat:=wB (andB (andB (Nat.beq (tagN x) (kc k)) (Nat.beq (tagN y) (kc k2))) (andB (Nat.blt (iw y) (hfK k2)) (Nat.ble (iw y) 64))) (mkI (kc k) (Nat.mod (Nat.shiftLeft (iw x) (iw y)) (pwK k)))
def shrF (k k2:IntKind) (x y:Nat→Nat) (E:Nat) (_:Mm):Nat:=shrX k k2 (x E) (y E)
def shlF (k k2:IntKind) (x y:Nat→Nat) (E:Nat) (_:Mm):Nat:=shlX k k2 (x E) (y E)
def shO (o:BinOp) (k k2:IntKind) (x y:Operand):Option Wf:=match o with
 | .shr=>some (.mk (shrF k k2 (gW x).run (gW y).run))
 | .shl=>some (.mk (shlF k k2 (gW x).run (gW y).run))
 | _=>none
def sh2 (o:BinOp) (k:IntKind) (x y:Operand):Option IntKind→Option Wf
 | none=>none
 | some k2=>shO o k k2 x y
def wfO (op:Op):Option Wf:=match op with
 | .move x=>some (.mk (movF (gW x).run))
 | .assign x=>some (.mk (movF (gW x).run))
 | .nilCheck x=>some (.mk (nilF (gW x).run))
 | .pick c x y=>some (.mk (pickF (gW c).run (gW x).run (gW y).run))
 | .binOp o t x y ty=>match intK TT t with
  | none=>none
  | some k=>match iopW o k with
   | none=>sh2 o k x y (intK TT ty)
   | some f=>some (.mk (binF (kc k) f.run (gW x).run (gW y).run))
 | .unOp .not _ x=>some (.mk (notF (gW x).run))
 | .fieldAddr t x k=>match fldO TT t k with
  | none=>none
  | some f=>some (.mk (fldF f (gW x).run))
 | .indexAddr t x y=>match undT TT t with
  | some (.slice e)=>match sizT TT e with
   | none=>none
   | some m=>some (.mk (idxF m (gW x).run (gW y).run))
  | some (.array len e)=>match sizT TT e with
   | none=>none
   | some m=>some (.mk (idaF m len (gW x).run (gW y).run))
  | _=>none
 | .load t x=>match undT TT t with
  | none=>none
  | some d=>bif isAggD d then none else some (.mk (loadF (gW x).run))
 | .extract (.tmp t) k=>some (.mk (extF k t))
 | .convert s d x=>match intK TT s with
  | none=>none
  | some k=>match intK TT d with
   | none=>none
   | some d=>some (.mk (cvF k d (gW x).run))
 | .call c=>match c.callee with
  | .builtin .len=>match c.args.toList with
   | [x]=>match c.argTypes.toList with
    | [t]=>match undT TT t with
     | some (.slice _)=>some (.mk (lenF (gW x).run))
     | _=>none
    | _=>none
   | _=>none
  | _=>none
 | _=>none
end
section
variable {TT:Nat→Option TI}
def WfOk (TT:Nat→Option TI) (op:Op) (f:Wf):Prop:=∀ E M,tagOK (f.run E M)=true→∃ v,stepO TT (view E M.S) M.H M.nx op=.val (v,M.H,M.nx)∧WR (f.run E M) v
theorem wf_mov {x:Operand} {op:Op} (ho:op=.move x∨op=.assign x):WfOk TT op (.mk (movF (gW x).run)):=by
 intro E M h
 obtain ⟨v,h1,h2⟩:=gW_ok (S:=M.S) (h:tagOK ((gW x).run E)=true)
 refine ⟨v,?_,h2⟩
 rcases ho with rfl|rfl<;>simp only [stepO,doP,h1,ofP]
theorem tag_get {x:Operand} {E:Nat} {S:SL} {t:Nat} {v:AV} (ht:Nat.beq (tagN ((gW x).run E)) t=true) (hd:tagN ((gW x).run E)=t→dec ((gW x).run E)=some v) (h1:1≤t) (h2:t≤64):opnd (view E S) x=some v :=
 gW_dec (beq_t ht) h1 h2 (hd (beq_t ht))
theorem wf_nil {x:Operand}:WfOk TT (.nilCheck x) (.mk (nilF (gW x).run)):=by
 intro E M h
 obtain ⟨h1,h2,h3⟩:=wB_ok (show tagOK (wB _ _)=true from h)
 have hx:=tag_get (S:=M.S) h1 dec_ptr (by decide) (by decide)
 refine ⟨.p (f0 ((gW x).run E)) (f1 ((gW x).run E)),by simp only [stepO,doP,hx,ofP],?_⟩
 show WR (wB _ _) _
 rw [h2]
 obtain ⟨v,e1,e2⟩:=gW_ok (S:=M.S) h3
 rw [hx] at e1
 simp only [Option.some.injEq] at e1
 rw [e1]; exact e2
theorem wf_pick {c x y:Operand}:WfOk TT (.pick c x y) (.mk (pickF (gW c).run (gW x).run (gW y).run)):=by
 intro E M h
 have e:∀ b,(Wf.mk (pickF (gW c).run (gW x).run (gW y).run)).run E M=Bool.rec (motive:=fun _=>Nat) (wB (Nat.beq (tagN ((gW c).run E)) 1) ((gW y).run E)) ((gW x).run E) b∨¬ Nat.beq (tagN ((gW c).run E)) 9=b:=fun b=>by
  by_cases hb:Nat.beq (tagN ((gW c).run E)) 9=b
  ·exact .inl (by rw [← hb]; rfl)
  ·exact .inr hb
 rcases hc:Nat.beq (tagN ((gW c).run E)) 9 with _|_
 ·have e:=(e false).resolve_right (by rw [hc]; simp)
  rw [e] at h ⊢
  obtain ⟨h1,h2,h3⟩:=wB_ok (show tagOK (wB _ _)=true from h)
  have hc:=tag_get (S:=M.S) h1 dec_f (by decide) (by decide)
  obtain ⟨v,e1,e2⟩:=gW_ok (S:=M.S) h3
  exact ⟨v,by simp only [stepO,doP,hc,e1,ofP],by show WR (wB _ _) _; rw [h2]; exact e2⟩
 ·have e:=(e true).resolve_right (by rw [hc]; simp)
  rw [e] at h ⊢
  have hc:=tag_get (S:=M.S) hc dec_t (by decide) (by decide)
  obtain ⟨v,e1,e2⟩:=gW_ok (S:=M.S) h
  exact ⟨v,by simp only [stepO,doP,hc,e1,ofP],e2⟩
theorem wf_bin {o:BinOp} {t ty:TypeId} {x y:Operand} {k:IntKind} {f:Wn2} (hf:iopW o k=some f):WfOk TT (.binOp o t x y ty) (.mk (binF (kc k) f.run (gW x).run (gW y).run)):=by
 intro E M h
 obtain ⟨h1,h2,h3⟩:=wB_ok (show tagOK (wB _ _)=true from h)
 obtain ⟨hx,hy⟩:=twoK_ok h1
 have hk:=kc_le k
 have hx:=gW_dec (S:=M.S) hx (by omega) (by omega) (dec_int hx)
 have hy:=gW_dec (S:=M.S) hy (by omega) (by omega) (dec_int hy)
 obtain ⟨v,e1,e2⟩:=iopW_ok hf h3
 refine ⟨v,?_,by show WR (wB _ _) _; rw [h2]; exact e2⟩
 have e3:binA TT o t (.i k (iw ((gW x).run E))) (.i k (iw ((gW y).run E)))=some v:=by
  unfold binA
  cases o<;>first|(simp only [decide_true,cond_true]; exact e1)|cases hf
 simp only [stepO,doP,hx,hy,e3]
theorem wf_shr {t ty:TypeId} {x y:Operand} {k k2:IntKind}:WfOk TT (.binOp .shr t x y ty) (.mk (shrF k k2 (gW x).run (gW y).run)):=by
 intro E M h
 obtain ⟨h1,h2,h3⟩:=wB_ok (show tagOK (wB _ _)=true from h)
 obtain ⟨h1,h4⟩:=andB_t h1
 obtain ⟨hx,hy⟩:=andB_t h1
 obtain ⟨h4,h5⟩:=andB_t h4
 obtain ⟨h5,h6⟩:=andB_t h5
 have hk:=kc_le k
 have hk2:=kc_le k2
 have hx:=gW_dec (S:=M.S) (beq_t hx) (by omega) (by omega) (dec_int (beq_t hx))
 have hy:=gW_dec (S:=M.S) (beq_t hy) (by omega) (by omega) (dec_int (beq_t hy))
 refine ⟨.i k (Nat.shiftRight (iw ((gW x).run E)) (iw ((gW y).run E))),?_,?_⟩
 ·have e3:binA TT .shr t (.i k (iw ((gW x).run E))) (.i k2 (iw ((gW y).run E)))=some (.i k (Nat.shiftRight (iw ((gW x).run E)) (iw ((gW y).run E)))):=by
   show shA .shr k _ k2 _=_
   generalize iw ((gW x).run E)=u at h5 ⊢
   generalize iw ((gW y).run E)=v at h4 h6 ⊢
   unfold shA
   rw [h4,h5,h6]
  simp only [stepO,doP,hx,hy,e3]
 ·show WR (wB _ _) _
  rw [h2]
  refine mkI_ok (Nat.lt_of_le_of_lt ?_ (iw_lt ((gW x).run E)))
  rw [sr_eq]; exact Nat.div_le_self _ _
theorem wf_shl {t ty:TypeId} {x y:Operand} {k k2:IntKind}:WfOk TT (.binOp .shl t x y ty) (.mk (shlF k k2 (gW x).run (gW y).run)):=by
 intro E M h
 obtain ⟨h1,h2,h3⟩:=wB_ok (show tagOK (wB _ _)=true from h)
 obtain ⟨h1,h4⟩:=andB_t h1
 obtain ⟨hx,hy⟩:=andB_t h1
 obtain ⟨h4,h5⟩:=andB_t h4
 have hk:=kc_le k
 have hk2:=kc_le k2
 have hx:=gW_dec (S:=M.S) (beq_t hx) (by omega) (by omega) (dec_int (beq_t hx))
 have hy:=gW_dec (S:=M.S) (beq_t hy) (by omega) (by omega) (dec_int (beq_t hy))
 refine ⟨.i k (Nat.mod (Nat.shiftLeft (iw ((gW x).run E)) (iw ((gW y).run E))) (pwK k)),?_,?_⟩
 ·have e3:binA TT .shl t (.i k (iw ((gW x).run E))) (.i k2 (iw ((gW y).run E)))=some (.i k (Nat.mod (Nat.shiftLeft (iw ((gW x).run E)) (iw ((gW y).run E))) (pwK k))):=by
   show shA .shl k _ k2 _=_
   generalize iw ((gW x).run E)=u
   generalize iw ((gW y).run E)=v at h4 h5 ⊢
   unfold shA
   rw [h4,h5]
  simp only [stepO,doP,hx,hy,e3]
 ·show WR (wB _ _) _
  rw [h2]
  exact mkI_ok (Nat.lt_of_lt_of_le (Nat.mod_lt _ (pwK_pos k)) (pw_le k))
theorem shO_ok {o:BinOp} {t ty:TypeId} {x y:Operand} {k k2:IntKind} {f:Wf} (hf:shO o k k2 x y=some f):WfOk TT (.binOp o t x y ty) f:=by
 cases o with
 | shr=>simp only [shO,Option.some.injEq] at hf; subst hf; exact wf_shr
 | shl=>simp only [shO,Option.some.injEq] at hf; subst hf; exact wf_shl
 | _=>cases hf
theorem wf_not {t:TypeId} {x:Operand}:WfOk TT (.unOp .not t x) (.mk (notF (gW x).run)):=by
 intro E M h
 rcases hc:Nat.beq (tagN ((gW x).run E)) 1 with _|_
 ·have e:(Wf.mk (notF (gW x).run)).run E M=wB (Nat.beq (tagN ((gW x).run E)) 9) 1:=by
   show Bool.rec (motive:=fun _=>Nat) _ _ (Nat.beq (tagN ((gW x).run E)) 1)=_
   rw [hc]
  rw [e] at h ⊢
  obtain ⟨h1,h2,h3⟩:=wB_ok h
  have hx:=tag_get (S:=M.S) h1 dec_t (by decide) (by decide)
  exact ⟨.b false,by simp only [stepO,doP,hx,ofP]; rfl,by rw [h2]; exact bW_ok false⟩
 ·have e:(Wf.mk (notF (gW x).run)).run E M=9:=by
   show Bool.rec (motive:=fun _=>Nat) _ _ (Nat.beq (tagN ((gW x).run E)) 1)=_
   rw [hc]
  have hx:=tag_get (S:=M.S) hc dec_f (by decide) (by decide)
  exact ⟨.b true,by simp only [stepO,doP,hx,ofP]; rfl,by rw [e]; exact bW_ok true⟩
theorem wf_fld {t:TypeId} {x:Operand} {k f:Nat} (hf:fldO TT t k=some f):WfOk TT (.fieldAddr t x k) (.mk (fldF f (gW x).run)):=by
 intro E M h
 obtain ⟨h1,h2,h3⟩:=wB_ok (show tagOK (wB _ _)=true from h)
 obtain ⟨h1,h4⟩:=andB_t h1
 have hx:=tag_get (S:=M.S) h1 dec_ptr (by decide) (by decide)
 refine ⟨.p (f0 ((gW x).run E)) (Nat.add (f1 ((gW x).run E)) f),?_,by show WR (wB _ _) _; rw [h2]; exact mkP_ok (f0_lt _) (blt_t h4)⟩
 unfold fldO at hf
 simp only [stepO,doP,hx]
 split at hf
 ·rename_i fs hu
  simp only [hu]
  split at hf
  ·cases hf
  ·rename_i fd hfd
   simp only [hfd]
   split at hf
   ·cases hf
   ·rename_i m hm
    simp only [hm]
    rw [cond_eq_ite] at hf ⊢
    split at hf
    ·cases hf
    ·rename_i hz
     simp only [Option.some.injEq] at hf; subst hf
     rw [if_neg hz]; rfl
 ·cases hf
theorem isSl_ok {t:Nat} (h:isSl t=true):t=11∨t=12:=by
 have h:=beq_t h
 rw [sr_eq] at h
 have h:(t+1) / 2 ^ 1=6:=h
 omega
theorem sl_get {x:Operand} {E:Nat} {S:SL} (h:isSl (tagN ((gW x).run E))=true):∃ b,opnd (view E S) x=some (.sl (f0 ((gW x).run E)) (f1 ((gW x).run E)) (f2 ((gW x).run E)) (f3 ((gW x).run E)) b):=by
 rcases isSl_ok h with h|h
 ·exact ⟨false,gW_dec h (by decide) (by decide) (dec_sl h)⟩
 ·exact ⟨true,gW_dec h (by decide) (by decide) (dec_slk h)⟩
theorem natA_i64 {u:Nat} (h:Nat.blt u 9223372036854775808=true):natA (.i .i64 u)=some u:=by
 show (bif Nat.blt u 9223372036854775808 then some u else none)=_
 rw [h]; rfl
theorem wf_idx {t e m:Nat} {x y:Operand} (hu:undT TT t=some (.slice e)) (hm:sizT TT e=some m):WfOk TT (.indexAddr t x y) (.mk (idxF m (gW x).run (gW y).run)):=by
 intro E M h
 obtain ⟨h1,h2,h3⟩:=wB_ok (show tagOK (wB _ _)=true from h)
 obtain ⟨h1,h4⟩:=andB_t h1
 obtain ⟨h1,h5⟩:=andB_t h1
 obtain ⟨h4,h6⟩:=andB_t h4
 obtain ⟨h6,h7⟩:=andB_t h6
 have hy:opnd (view E M.S) y=some (.i .i64 (iw ((gW y).run E))):=tag_get (S:=M.S) h1 (dec_int (k:=.i64)) (by decide) (by decide)
 obtain ⟨b,hx⟩:=sl_get (S:=M.S) h4
 refine ⟨_,by simp only [stepO,doP,hy,natA_i64 h5,hx,hu,hm,h6,cond_true,ofP]; rfl,by show WR (wB _ _) _; rw [h2]; exact mkP_ok (f0_lt _) (blt_t h7)⟩
theorem wf_ida {t e m len:Nat} {x y:Operand} (hu:undT TT t=some (.array len e)) (hm:sizT TT e=some m):WfOk TT (.indexAddr t x y) (.mk (idaF m len (gW x).run (gW y).run)):=by
 intro E M h
 obtain ⟨h1,h2,h3⟩:=wB_ok (show tagOK (wB _ _)=true from h)
 obtain ⟨h1,h4⟩:=andB_t h1
 obtain ⟨h1,h5⟩:=andB_t h1
 obtain ⟨h4,h6⟩:=andB_t h4
 obtain ⟨h6,h7⟩:=andB_t h6
 have hy:opnd (view E M.S) y=some (.i .i64 (iw ((gW y).run E))):=tag_get (S:=M.S) h1 (dec_int (k:=.i64)) (by decide) (by decide)
 have hx:=tag_get (S:=M.S) h4 dec_ptr (by decide) (by decide)
 refine ⟨_,by simp only [stepO,doP,hy,natA_i64 h5,hx,hu,hm,h6,cond_true,ofP]; rfl,by show WR (wB _ _) _; rw [h2]; exact mkP_ok (f0_lt _) (blt_t h7)⟩
theorem cellC_ok {s:CT} {off:Nat} (h:tagOK (cellC off s)=true):∃ v,s.get off=some v∧WR (cellC off s) v:=by
 cases s with
 | li l=>exact encO_ok h
 | tr d t=>exact encO_ok h
 | pk w =>
  obtain ⟨v,h1,h2⟩:=tagOK_dec h
  exact ⟨v,h1,h2,h1,slot_lt _ _⟩
 | mx w t=>exact encO_ok h
theorem cellO_ok {o:Option AO} {off:Nat} (h:tagOK (cellO off o)=true):∃ b v,o=some b∧cellAt b off=some v∧WR (cellO off o) v:=by
 cases o with
 | none=>exact absurd h (show ¬ tagOK 0=true by decide)
 | some b =>
  cases b with
  | mp es cl=>exact absurd h (show ¬ tagOK 0=true by decide)
  | si _ _ _=>exact absurd h (show ¬ tagOK 0=true by decide)
  | c e n kn s =>
   obtain ⟨h1,h2,h3⟩:=wB_ok (show tagOK (wB _ _)=true from h)
   obtain ⟨v,h4,h5⟩:=cellC_ok h3
   refine ⟨_,v,rfl,by simp only [cellAt,h1,cond_true,h4],?_⟩
   show WR (wB _ _) _
   rw [h2]; exact h5
theorem wf_load {t:TypeId} {x:Operand} {d:TypeDesc} (hu:undT TT t=some d) (hd:isAggD d=false):WfOk TT (.load t x) (.mk (loadF (gW x).run)):=by
 intro E M h
 obtain ⟨h1,h2,h3⟩:=wB_ok (show tagOK (wB _ _)=true from h)
 have hx:=tag_get (S:=M.S) h1 dec_ptr (by decide) (by decide)
 obtain ⟨b,v,e1,e2,e3⟩:=cellO_ok h3
 refine ⟨v,?_,by show WR (wB _ _) _; rw [h2]; exact e3⟩
 have e4:loadA TT M.H t (f0 ((gW x).run E)) (f1 ((gW x).run E))=some v:=by
  unfold loadA
  simp only [e1,hu,hd,cond_false,e2]
 simp only [stepO,loadO,hx,e4]
theorem wf_ext {t k:Nat}:WfOk TT (.extract (.tmp t) k) (.mk (extF k t)):=by
 intro E M h
 obtain ⟨h1,h2,h3⟩:=wB_ok (show tagOK (wB _ _)=true from h)
 have hx:(view E M.S).get t=sget M.S t:=by rw [view_eq,if_pos (beq_t h1)]
 unfold ext1 at h2 h3
 split at h3
 ·rename_i l hl
  obtain ⟨v,e1,e2⟩:=encO_ok h3
  refine ⟨v,?_,by show WR (wB _ _) _; unfold ext1; rw [hl]; rw [hl] at h2; rw [h2]; exact e2⟩
  rw [nthA_eq] at e1
  have hx2:opnd (view E M.S) (.tmp t)=some (.tu l):=hx.trans hl
  simp only [stepO,doP,hx2,e1,ofP]
 ·exact absurd h3 (show ¬ tagOK 0=true by decide)
theorem cvI_lt (d k:IntKind) (u:Nat):cvI d k u<2 ^ 64:=Nat.lt_of_lt_of_le (Nat.mod_lt _ (pwK_pos d)) (pw_le d)
theorem intK_ok {t:TypeId} {k:IntKind} (h:intK TT t=some k):undT TT t=some (.int k):=by
 unfold intK at h
 split at h
 ·rename_i k' hk; simp only [Option.some.injEq] at h; subst h; exact hk
 ·cases h
theorem wf_cv {s d:TypeId} {x:Operand} {k k2:IntKind} (hs:intK TT s=some k) (hd:intK TT d=some k2):WfOk TT (.convert s d x) (.mk (cvF k k2 (gW x).run)):=by
 intro E M h
 obtain ⟨h1,h2,h3⟩:=wB_ok (show tagOK (wB _ _)=true from h)
 have hk:=kc_le k
 have hx:=tag_get (S:=M.S) h1 (dec_int (k:=k)) (by omega) (by omega)
 refine ⟨.i k2 (cvI k2 k (iw ((gW x).run E))),?_,by show WR (wB _ _) _; rw [h2]; exact mkI_ok (cvI_lt _ _ _)⟩
 simp only [stepO,doP,hx,intK_ok hs,intK_ok hd]
theorem f2_lt (w:Nat):f2 w<16777216:=Nat.mod_lt _ (by decide)
theorem lenV_small {n:Nat} (h:n<16777216):lenV n=some (.i .i64 n):=by
 unfold lenV; rw [show Nat.blt n 9223372036854775808=true from Nat.ble_eq_true_of_le (by omega)]; rfl
theorem wf_len {c:Call} {x:Operand} {t e:TypeId} (hc:c.callee=.builtin .len) (ha:c.args.toList=[x]) (ht:c.argTypes.toList=[t]) (hu:undT TT t=some (.slice e)):WfOk TT (.call c) (.mk (lenF (gW x).run)):=by
 intro E M h
 have fin:∀ {a:AV} {n:Nat},opnd (view E M.S) x=some a→(∀ l m,a≠.s l m)→lenA a=some (.i .i64 n)→stepO TT (view E M.S) M.H M.nx (.call c)=.val (.i .i64 n,M.H,M.nx):=fun {a n} h1 h2 h3=>by
  have:doP TT (view E M.S) (.call c)=some (.i .i64 n):=by
   simp only [doP,hc,ha,ht,h1,hu]
   cases a<;>first|exact absurd rfl (h2 _ _)|exact h3
  simp only [stepO,hc,this]
 rcases hs:isSl (tagN ((gW x).run E)) with _|_
 ·have e:(Wf.mk (lenF (gW x).run)).run E M=wB (Nat.beq (Nat.land (tagN ((gW x).run E)) 251) 3) 35:=by
   show Bool.rec (motive:=fun _=>Nat) _ _ (isSl (tagN ((gW x).run E)))=_
   rw [hs]
  rw [e] at h ⊢
  obtain ⟨h1,h2,h3⟩:=wB_ok h
  have h1:=beq_t h1
  have h8:tagN ((gW x).run E)<256:=Nat.mod_lt _ (by decide)
  have h9:tagN ((gW x).run E)=3∨tagN ((gW x).run E)=7:=by
   have key:∀ t,t<256→Nat.land t 251=3→t=3∨t=7:=by decide +kernel
   exact key _ h8 h1
  have hw:WR (wB (Nat.beq (Nat.land (tagN ((gW x).run E)) 251) 3) 35) (.i .i64 0):=by rw [h2]; exact mkI_ok (k:=.i64) (u:=0) (by decide)
  rcases h9 with h9|h9
  ·have hx:=gW_dec (S:=M.S) h9 (by decide) (by decide) (show dec ((gW x).run E)=some .ns by unfold dec; rw [h9]; rfl)
   exact ⟨_,fin hx (fun _ _ e=>by cases e) G,hw⟩
  ·have hx:=gW_dec (S:=M.S) h9 (by decide) (by decide) (show dec ((gW x).run E)=some .es by unfold dec; rw [h9]; rfl)
   exact ⟨_,fin hx (fun _ _ e=>by cases e) G,hw⟩
 ·have e:(Wf.mk (lenF (gW x).run)).run E M=mkI 35 (f2 ((gW x).run E)):=by
   show Bool.rec (motive:=fun _=>Nat) _ _ (isSl (tagN ((gW x).run E)))=_
   rw [hs]
  obtain ⟨b,hx⟩:=sl_get (S:=M.S) hs
  have hl:=f2_lt ((gW x).run E)
  exact ⟨_,fin hx (fun _ _ e=>by cases e) (lenV_small hl),by rw [e]; exact mkI_ok (k:=.i64) (by omega)⟩
theorem wfO_ok {op:Op} {f:Wf} (hf:wfO TT op=some f):WfOk TT op f:=by
 cases op with
 | move x=>simp only [wfO,Option.some.injEq] at hf; subst hf; exact wf_mov (.inl G)
 | assign x=>simp only [wfO,Option.some.injEq] at hf; subst hf; exact wf_mov (.inr G)
 | nilCheck x=>simp only [wfO,Option.some.injEq] at hf; subst hf; exact wf_nil
 | pick c x y=>simp only [wfO,Option.some.injEq] at hf; subst hf; exact wf_pick
 | binOp o t x y ty =>
  simp only [wfO] at hf
  split at hf
  ·cases hf
  ·split at hf
   ·cases hk:intK TT ty with
    | none=>rw [hk] at hf; cases hf
    | some k2=>rw [hk] at hf; exact shO_ok hf
   ·rename_i g hg
    simp only [Option.some.injEq] at hf; subst hf; exact wf_bin hg
 | unOp o t x =>
  cases o with
  | not=>simp only [wfO,Option.some.injEq] at hf; subst hf; exact wf_not
  | _=>cases hf
 | fieldAddr t x k =>
  simp only [wfO] at hf
  split at hf
  ·cases hf
  ·rename_i g hg
   simp only [Option.some.injEq] at hf; subst hf; exact wf_fld hg
 | indexAddr t x y =>
  simp only [wfO] at hf
  split at hf
  ·rename_i e hu
   split at hf
   ·cases hf
   ·rename_i m hm
    simp only [Option.some.injEq] at hf; subst hf; exact wf_idx hu hm
  ·rename_i len e hu
   split at hf
   ·cases hf
   ·rename_i m hm
    simp only [Option.some.injEq] at hf; subst hf; exact wf_ida hu hm
  ·cases hf
 | load t x =>
  simp only [wfO] at hf
  split at hf
  ·cases hf
  ·rename_i d hd
   rcases ha:isAggD d with _|_
   ·rw [ha] at hf
    simp only [cond_false,Option.some.injEq] at hf; subst hf; exact wf_load hd ha
   ·rw [ha] at hf; cases hf
 | extract x k =>
  cases x with
  | tmp t=>simp only [wfO,Option.some.injEq] at hf; subst hf; exact wf_ext
  | _=>cases hf
 | convert s d x =>
  simp only [wfO] at hf
  split at hf
  ·cases hf
  ·rename_i k hk
   split at hf
   ·cases hf
   ·rename_i k2 hk2
    simp only [Option.some.injEq] at hf; subst hf; exact wf_cv hk hk2
 | call c =>
  simp only [wfO] at hf
  split at hf
  ·rename_i hc
   split at hf
   ·rename_i x hx
    split at hf
    ·rename_i t ht
     split at hf
     ·rename_i e hu
      simp only [Option.some.injEq] at hf; subst hf; exact wf_len hc hx ht hu
     ·cases hf
    ·cases hf
   ·cases hf
  ·cases hf
 | _=>cases hf
end
end
end Ab
end Sl
end Go.Proofs.YtfahijncpmlhjaaGreat
namespace Go.Proofs.YtfahijncpmlhjaaGreat
open Go Go.RowKit
namespace Sl
namespace Ab
noncomputable section
def canW (w:Nat):Nat:=Bool.rec (motive:=fun _=>Nat) (Bool.rec (motive:=fun _=>Nat) (encO (dec w)) (Nat.mod w 72057594037927936) (Nat.beq (tagN w) 10)) (Nat.mod w 4722366482869645213696) (Nat.beq (Nat.shiftRight (tagN w) 3) 4)
theorem canW_ok {w:Nat} {v:AV} (hd:dec w=some v):canW w=enc v:=by
 unfold canW
 cases h:Nat.beq (Nat.shiftRight (tagN w) 3) 4 with
 | true =>
  have h:=beq_t h
  rw [sr_eq] at h
  have hk:∃ k,tagN w=kc k:=by
   have:tagN w=32∨tagN w=33∨tagN w=34∨tagN w=35∨tagN w=36∨tagN w=37∨tagN w=38∨tagN w=39:=by omega
   rcases this with e|e|e|e|e|e|e|e
   ·exact ⟨.i8,e⟩
   ·exact ⟨.i16,e⟩
   ·exact ⟨.i32,e⟩
   ·exact ⟨.i64,e⟩
   ·exact ⟨.u8,e⟩
   ·exact ⟨.u16,e⟩
   ·exact ⟨.u32,e⟩
   ·exact ⟨.u64,e⟩
  obtain ⟨k,hk⟩:=hk
  have e:=dec_int hk
  rw [hd] at e
  simp only [Option.some.injEq] at e; subst e
  have hi:=iw_lt w
  show Nat.mod w _=bif Nat.blt (iw w) 18446744073709551616 then Nat.add (kc k) (Nat.mul 256 (iw w)) else 255
  rw [show Nat.blt (iw w) 18446744073709551616=true from Nat.ble_eq_true_of_le hi,cond_true,← hk]
  show w % 4722366482869645213696=w % 256+256*(Nat.shiftRight w 8 % 18446744073709551616)
  rw [sr_eq]; omega
 | false =>
  cases h2:Nat.beq (tagN w) 10 with
  | true =>
   have h2:=beq_t h2
   have e:=dec_ptr h2
   rw [hd] at e
   simp only [Option.some.injEq] at e; subst e
   have h3:=f0_lt w
   have h4:f1 w<16777216:=Nat.mod_lt _ (by decide)
   show Nat.mod w _=bif and (small (f0 w)) (small (f1 w)) then Nat.add 10 (Nat.add (Nat.mul 256 (f0 w)) (Nat.mul 4294967296 (f1 w))) else 255
   rw [show small (f0 w)=true from Nat.ble_eq_true_of_le h3,show small (f1 w)=true from Nat.ble_eq_true_of_le h4]
   show w % 72057594037927936=10+(256*(Nat.shiftRight w 8 % 16777216)+4294967296*(Nat.shiftRight w 32 % 16777216))
   have h2:w % 256=10:=h2
   rw [sr_eq,sr_eq]; omega
  | false=>show encO (dec w)=_; rw [hd]; rfl
theorem tagOK_of_dec {w:Nat} {v:AV} (h:dec w=some v):tagOK w=true:=by
 refine tagOK_iff.2 ⟨?_,?_⟩
 ·by_cases h0:tagN w=0
  ·rw [dec_zero h0] at h; cases h
  ·omega
 ·by_cases h0:65≤tagN w
  ·rw [dec_65 h0] at h; cases h
  ·omega
def canT (c:Nat):Bool:=andB (tagOK c) (neX c 8)
theorem canT_ok {w:Nat} (h:canT (canW w)=true):∃ v,dec w=some v∧cellsO v=some [v]∧enc v=canW w∧∀ c off,wrP [v] c off=some (putN c (offs off) (canW w)):=by
 obtain ⟨h1,h2⟩:=andB_t h
 have hs:∃ v,dec w=some v:=by
  rcases hd:dec w with _|v
  ·exfalso
   have h0:¬ (1≤tagN w∧tagN w≤64):=fun ⟨a,b⟩=>by
    obtain ⟨v,hv⟩:=dec_some a b
    rw [hd] at hv; cases hv
   unfold canW at h1
   cases h5:Nat.beq (Nat.shiftRight (tagN w) 3) 4 with
   | true =>
    have h5:=beq_t h5
    rw [sr_eq] at h5
    omega
   | false =>
    rw [h5] at h1
    cases h6:Nat.beq (tagN w) 10 with
    | true=>have:=beq_t h6; omega
    | false=>rw [h6,hd] at h1; exact absurd h1 (show ¬ tagOK 0=true by decide)
  ·exact ⟨v,rfl⟩
 obtain ⟨v,hv⟩:=hs
 rw [canW_ok hv] at h1 h2 ⊢
 have hne:enc v≠255:=fun e=>by rw [e] at h1; exact absurd h1 (by decide)
 have h8:enc v≠8:=fun e=>by rw [e] at h2; exact absurd h2 (by decide)
 refine ⟨v,hv,?_,rfl,fun c off=>by simp only [wrP,cond_eq_ite,Nat.beq_eq,if_neg hne]⟩
 cases v with
 | ag l=>exact absurd G hne
 | tu l=>cases l with
  | nil=>exact absurd G h8
  | cons a l=>exact absurd G hne
 | _=>rfl
section
variable (TT:Nat→Option TI)
def stC (p w:Nat) (E:Nat) (k:K0) (fb:Nat) (S:SL) (H:T AO) (nx:Nat) (D:DL) (e n:Nat) (kn:Bool) (c:Nat):Nat :=
 Bool.rec (motive:=fun _=>Nat) fb (k E ⟨S,H.put (.c e n kn (.pk (putN c (offs (f1 p)) w))) (f0 p),nx,D⟩) (Nat.blt (f1 p) n)
def stB (p w:Nat) (E:Nat) (k:K0) (fb:Nat) (S:SL) (H:T AO) (nx:Nat) (D:DL) (o:AO):Nat :=
 AO.rec (motive:=fun _=>Nat) (fun e n kn s=>CT.rec (motive:=fun _=>Nat) (fun _=>fb) (fun _ _=>fb) (stC p w E k fb S H nx D e n kn) (fun _ _=>fb) s) (fun _ _=>fb) (fun _ _ _=>fb) o
def stM (p w:Nat) (E:Nat) (k:K0) (fb:Nat) (S:SL) (H:T AO) (nx:Nat) (D:DL):Nat :=
 Option.rec (motive:=fun _=>Nat) fb (stB p w E k fb S H nx D) (H.get (f0 p))
def st1 (p w:Nat) (E:Nat) (M:Mm) (k:K0) (fb:Nat):Nat:=Bool.rec (motive:=fun _=>Nat) fb (inM M (stM p w E k fb)) (andB (Nat.beq (tagN p) 10) (canT w))
def stG (x y:Nat→Nat) (g:GG):GG:=fun cx E M k=>st1 (x E) (canW (y E)) E M k (g cx E M k)
def alM (b:AO) (d:Nat) (E:Nat) (k:K0) (fb:Nat) (S:SL) (H:T AO) (nx:Nat) (D:DL):Nat:=Bool.rec (motive:=fun _=>Nat) fb (k (putN E (offs d) (mkP nx 0)) ⟨S,H.put b nx,Nat.succ nx,D⟩) (small nx)
def alG (b:AO) (d:Nat) (g:GG):GG:=fun cx E M k=>inM M (alM b d E k (g cx E M k))
def bxG (t d:Nat) (x:Nat→Nat) (g:GG):GG:=fun cx E M k=>Bool.rec (motive:=fun _=>Nat) (g cx E M k) (inM M (alM (.c t 1 true (.pk (putN 0 256 (canW (x E))))) d E k (g cx E M k))) (canT (canW (x E)))
def mkS (a b c d:Nat):Nat:=Nat.add 12 (Nat.add (Nat.add (Nat.mul 256 a) (Nat.mul 4294967296 b)) (Nat.add (Nat.mul 72057594037927936 c) (Nat.mul 1208925819614629174706176 d)))
def bsM (e w d:Nat) (E:Nat) (k:K0) (fb:Nat) (S:SL) (H:T AO) (nx:Nat) (D:DL):Nat:=Bool.rec (motive:=fun _=>Nat) fb (k (putN E (offs d) (mkS nx 0 1 1)) ⟨S,H.put (.c e 1 true (.pk (putN 0 256 w))) nx,Nat.succ nx,D⟩) (small nx)
def bsG (e d:Nat) (x:Nat→Nat) (g:GG):GG:=fun cx E M k=>Bool.rec (motive:=fun _=>Nat) (g cx E M k) (inM M (bsM e (canW (x E)) d E k (g cx E M k))) (canT (canW (x E)))
def pkO (o:Option AO) (fb:Nat) (f:Nat→Nat→Bool→Nat→Nat):Nat:=Option.rec (motive:=fun _=>Nat) fb (fun o=>AO.rec (motive:=fun _=>Nat) (fun e n kn s=>CT.rec (motive:=fun _=>Nat) (fun _=>fb) (fun _ _=>fb) (fun c=>f e n kn c) (fun _ _=>fb) s) (fun _ _=>fb) (fun _ _ _=>fb) o) o
def apB (x d:Nat) (E:Nat) (k:K0) (fb:Nat) (S:SL) (H:T AO) (nx:Nat) (D:DL) (ws:Nat) (e n:Nat) (kn:Bool) (c:Nat):Nat :=
 Bool.rec (motive:=fun _=>Nat) fb (k (putN E (offs d) (mkS (f0 x) (f1 x) (Nat.succ (f2 x)) (f3 x))) ⟨S,H.put (.c e n kn (.pk (putN c (offs (Nat.add (f1 x) (f2 x))) ws))) (f0 x),nx,D⟩) (Nat.ble (Nat.add (f1 x) (Nat.succ (f2 x))) n)
def apC (x d:Nat) (E:Nat) (k:K0) (fb:Nat) (S:SL) (H:T AO) (nx:Nat) (D:DL) (ws:Nat):Nat:=Bool.rec (motive:=fun _=>Nat) fb (pkO (H.get (f0 x)) fb (apB x d E k fb S H nx D ws)) (canT ws)
def apD (x y d:Nat) (E:Nat) (k:K0) (fb:Nat) (S:SL) (H:T AO) (nx:Nat) (D:DL) (e n:Nat) (kn:Bool) (c:Nat):Nat :=
 Bool.rec (motive:=fun _=>Nat) fb (apC x d E k fb S H nx D (canW (slot c (offs (f1 y))))) (Nat.blt (f1 y) n)
def apM (x y d:Nat) (E:Nat) (k:K0) (fb:Nat) (S:SL) (H:T AO) (nx:Nat) (D:DL):Nat :=
 Bool.rec (motive:=fun _=>Nat) fb (pkO (H.get (f0 y)) fb (apD x y d E k fb S H nx D)) (andB (Nat.beq (tagN x) 12) (andB (isSl (tagN y)) (andB (Nat.beq (f2 y) 1) (Nat.blt (f2 x) (f3 x)))))
def apG (d:Nat) (x y:Nat→Nat) (g:GG):GG:=fun cx E M k=>inM M (apM (x E) (y E) d E k (g cx E M k))
structure An where
 mk ::
 run:Nat→Nat→Nat
def anC (i:Nat) (x:Nat→Nat) (r:An) (E acc:Nat):Nat:=r.run E (putN acc (offs i) (x E))
def argC :List Operand→Nat→An
 | [],_=>.mk fun _ acc=>acc
 | x::l,i=>.mk (anC i (gW x).run (argC l (Nat.succ i)))
structure Bn where
 mk ::
 run:Nat→Bool
def bnC (x:Nat→Nat) (r:Bn) (E:Nat):Bool:=andB (tagOK (x E)) (r.run E)
def argT :List Operand→Bn
 | []=>.mk fun _=>true
 | x::l=>.mk (bnC (gW x).run (argT l))
def retK (o:Option Nat) (E:Nat) (S:SL) (D:DL) (k:K0) (w:Nat) (v:AV) (H:T AO) (nx:Nat):Nat:=putO w v o E ⟨S,H,nx,D⟩ k
def caM (R:RT) (f m E0:Nat) (o:Option Nat) (E:Nat) (k:K0) (S:SL) (H:T AO) (nx:Nat) (D:DL):Nat:=R.rw f E0 m H nx (retK o E S D k)
def caG (f m:Nat) (a:An) (b:Bn) (o:Option Nat) (g:GG):GG:=fun cx E M k=>Bool.rec (motive:=fun _=>Nat) (g cx E M k) (inM M (caM cx.R f m (a.run E 0) o E k)) (b.run E)
def effG (op:Op) (o:Option Nat):Gn:=match op with
 | .store t x y=>match o with
  | some _=>.mk (genG TT op o)
  | none=>match sizT TT t with
   | some 1=>.mk (stG (gW x).run (gW y).run (genG TT op o))
   | _=>.mk (genG TT op o)
 | .alloc t=>match o with
  | none=>.mk (genG TT op o)
  | some d=>match zerT TT t with
   | none=>.mk (genG TT op o)
   | some z=>match cellsO z with
    | none=>.mk (genG TT op o)
    | some l=>.mk (alG (blkA t l) d (genG TT op o))
 | .box t x=>match o with
  | none=>.mk (genG TT op o)
  | some d=>.mk (bxG t d (gW x).run (genG TT op o))
 | .buildSlice t len parts=>match o with
  | none=>.mk (genG TT op o)
  | some d=>match len with
   | 1=>match parts.toList with
    | [(0,x)]=>match undT TT t with
     | some (.slice e)=>match sizT TT e with
      | some 1=>match zerT TT e with
       | none=>.mk (genG TT op o)
       | some z=>match cellsO z with
        | some [_]=>.mk (bsG e d (gW x).run (genG TT op o))
        | _=>.mk (genG TT op o)
      | _=>.mk (genG TT op o)
     | _=>.mk (genG TT op o)
    | _=>.mk (genG TT op o)
   | _=>.mk (genG TT op o)
 | .call c=>match c.callee with
  | .builtin .append=>match o with
   | none=>.mk (genG TT op o)
   | some d=>match c.args.toList with
    | [x,y]=>match c.argTypes.toList with
     | [t,tx]=>match undT TT t with
      | some (.slice e)=>match sizT TT e with
       | some 1=>match bytT TT e with
        | none=>.mk (genG TT op o)
        | some by'=>bif Nat.blt 0 by' then (match undT TT tx with
         | some (.slice _)=>.mk (apG d (gW x).run (gW y).run (genG TT op o))
         | _=>.mk (genG TT op o)) else .mk (genG TT op o)
       | _=>.mk (genG TT op o)
      | _=>.mk (genG TT op o)
     | _=>.mk (genG TT op o)
    | _=>.mk (genG TT op o)
  | .value (.func f)=>.mk (caG f c.args.toList.length (argC c.args.toList 0) (argT c.args.toList) o (genG TT op o))
  | _=>.mk (genG TT op o)
 | _=>.mk (genG TT op o)
def opG (op:Op) (o:Option Nat):Gn:=match o with
 | none=>effG TT op o
 | some d=>match wfO TT op with
  | some f=>.mk (fastG f.run d (genG TT op o))
  | none=>effG TT op o
def guardG (w:Bool) (d:Nat) (o:Option Nat) (g:GG):GG:=fun cx E M k =>
 bif Nat.beq (tagN (slot E (offs d))) (bif w then 9 else 1) then g cx E M k else
 bif or (Nat.beq (tagN (slot E (offs d))) (bif w then 1 else 9)) (Nat.beq (tagN (slot E (offs d))) 8) then putO 8 undA o E M k else stop cx 1 o
def skpG (o:Option Nat):GG:=fun cx E M k=>putO 8 undA o E M k
def gdG (ops:Array Oper) (o:Oper) (g:Gn):Gn:=match o.guard with
 | none=>g
 | some (j,w)=>match (ops[j]?).bind (·.dst) with
  | none=>.mk (skpG o.dst)
  | some d=>.mk (guardG w d o.dst g.run)
def cOp (n:Nat) (ops:Array Oper) (o:Oper):Gn:=bif dstOk n o.dst then gdG ops o (opG TT o.op o.dst) else .mk fun cx _ _ _=>stop cx 3 none
def nilFF :FF:=fun cx E M k _=>k E M
def thenF (o:Gn) (r:Fn):FF:=fun cx E M k a=>o.run cx E M fun E M=>r.run cx E M k a
def cL (n:Nat) (ops:Array Oper):List Oper→Fn
 | []=>.mk nilFF
 | o::l=>.mk (thenF (cOp TT n ops o) (cL n ops l))
end
section
variable (TT:Nat→Option TI) (FT:Nat→Option Func) (SM:T Summ)
def Ev (t:Tk) (r:Rs):Prop:=∃ F,∀ F',F≤F'→exec TT FT SM F' t=r
structure RR (R:RT):Prop where
 v:∀ {b k vs H nx} {K:KV},R.rv b k vs H nx K=1→∃ v w v' H' nx',Ev TT FT SM (bif b then .fn k vs H nx else .dfn k vs H nx) (.val v H' nx')∧VW w v' v∧K w v' H' nx'=1
 w:∀ {k E m vs H nx} {K:KV},R.rw k E m H nx K=1→vs.length=m→view E []=argsT vs En.e 0→∃ v w v' H' nx',Ev TT FT SM (.fn k vs H nx) (.val v H' nx')∧VW w v' v∧K w v' H' nx'=1
end
theorem und_vw :VW 8 undA undA:=.inr ⟨by decide,rfl,by decide⟩
section
variable {TT:Nat→Option TI} {FT:Nat→Option Func} {SM:T Summ}
theorem runL_cons {rec:Tk→Rs} {n:Nat} {ops:Array Oper} {o:Oper} {rest:List Oper} {s:S} (h:dstOk n o.dst=true):runL TT rec n ops (o::rest) s=match wantA ops s.E o.guard with
  | none=>.bad (why 1 o.dst)
  | some false=>runL TT rec n ops rest ⟨putT s.E o.dst undA,s.H,s.nx,s.D⟩
  | some true=>match stepO TT s.E s.H s.nx o.op with
   | .val (v,H,nx)=>runL TT rec n ops rest ⟨putT s.E o.dst v,H,nx,s.D⟩
   | .call k vs=>(match rec (.fn k vs s.H s.nx) with
    | .val v H nx=>runL TT rec n ops rest ⟨putT s.E o.dst v,H,nx,s.D⟩
    | .bad w=>.bad w
    | .ok _ _=>.bad 40)
   | .dfr k cap vs=>runL TT rec n ops rest ⟨putT s.E o.dst undA,s.H,s.nx,(k,cap,vs)::s.D⟩
   | .bad=>.bad (why 2 o.dst):=by
 rw [runL,h]; rfl
def DoesO (TT:Nat→Option TI) (FT:Nat→Option Func) (SM:T Summ) (op:Op) (o:Option Nat) (E:Nat) (M:Mm) (k:K0):Prop :=
 ∃ E' M' v,k E' M'=1∧((stepO TT (view E M.S) M.H M.nx op=.val (v,M'.H,M'.nx)∧M'.D=M.D) ∨
  (∃ f vs,stepO TT (view E M.S) M.H M.nx op=.call f vs∧Ev TT FT SM (.fn f vs M.H M.nx) (.val v M'.H M'.nx)∧M'.D=M.D) ∨
  (∃ f cap vs,stepO TT (view E M.S) M.H M.nx op=.dfr f cap vs∧v=undA∧M'.H=M.H∧M'.nx=M.nx∧M'.D=(f,cap,vs)::M.D))∧view E' M'.S=putT (view E M.S) o v
theorem abs_inj {E E':Nat} {M M':Mm} {e:En} {H:T AO} {nx:Nat} {D:DL} (h:absS E' M'=⟨e,H,nx,D⟩):view E' M'.S=e∧M'.H=H∧M'.nx=nx∧M'.D=D:=by
 unfold absS at h
 simp only [S.mk.injEq] at h
 exact h
theorem genG_ok {op:Op} {o:Option Nat} {cx:Cx} {E:Nat} {M:Mm} {k:K0} (hR:RR TT FT SM cx.R) (h:genG TT op o cx E M k=1):DoesO TT FT SM op o E M k:=by
 replace h:outK cx o E M k (stepO TT (view E M.S) M.H M.nx op)=1:=h
 match hr:stepO TT (view E M.S) M.H M.nx op,h with
 | .val (v,H,nx),h =>
  obtain ⟨E',M',h1,h2⟩:=putO_ok (enc_vw v) (h:putO (enc v) v o E (M.heap H nx) k=1)
  obtain ⟨e1,e2,e3,e4⟩:=abs_inj (E:=E) (M:=M) h1
  exact ⟨E',M',v,h2,.inl ⟨by rw [hr,e2,e3]; rfl,e4⟩,e1⟩
 | .call f vs,h =>
  obtain ⟨v,w,v',H,nx,hE,hw,h⟩:=hR.v h
  obtain ⟨E',M',h1,h2⟩:=putO_ok hw h
  obtain ⟨e1,e2,e3,e4⟩:=abs_inj (E:=E) (M:=M) h1
  exact ⟨E',M',v,h2,.inr (.inl ⟨f,vs,hr,by rw [e2,e3]; exact hE,e4⟩),e1⟩
 | .dfr f cap vs,h =>
  obtain ⟨E',M',h1,h2⟩:=putO_ok und_vw (h:putO 8 undA o E ⟨M.S,M.H,M.nx,(f,cap,vs)::M.D⟩ k=1)
  obtain ⟨e1,e2,e3,e4⟩:=abs_inj (E:=E) (M:=M) h1
  exact ⟨E',M',undA,h2,.inr (.inr ⟨f,cap,vs,hr,rfl,e2,e3,e4⟩),e1⟩
 | .bad,h=>exact absurd h (stop_ne _ _ _)
def GOk (TT:Nat→Option TI) (FT:Nat→Option Func) (SM:T Summ) (op:Op) (o:Option Nat) (g:GG):Prop:=∀ cx E M k,RR TT FT SM cx.R→g cx E M k=1→DoesO TT FT SM op o E M k
theorem gen_gok {op:Op} {o:Option Nat}:GOk TT FT SM op o (genG TT op o):=fun _ _ _ _ hR h=>genG_ok hR h
theorem bool_split {c:Bool} {x y:Nat} {P:Prop} (h:Bool.rec (motive:=fun _=>Nat) x y c=1) (h0:x=1→P) (h1:c=true→y=1→P):P:=by
 cases c with
 | false=>exact h0 h
 | true=>exact h1 G h
theorem fast_gok {op:Op} {d:Nat} {f:Wf} (hf:WfOk TT op f):GOk TT FT SM op (some d) (fastG f.run d (genG TT op (some d))):=by
 intro cx E M k hR h
 refine bool_split (h:fastK (f.run E M) d (genG TT op (some d)) cx E M k=1) (gen_gok cx E M k hR) fun ht h=>?_
 obtain ⟨v,h1,h2⟩:=hf E M ht
 exact ⟨_,M,v,h,.inl ⟨h1,rfl⟩,view_small h2⟩
theorem st_gok {t:TypeId} {x y:Operand} (hs:sizT TT t=some 1):GOk TT FT SM (.store t x y) none (stG (gW x).run (gW y).run (genG TT (.store t x y) none)):=by
 intro cx E M k hR h
 replace h:st1 ((gW x).run E) (canW ((gW y).run E)) E M k (genG TT (.store t x y) none cx E M k)=1:=h
 refine bool_split h (gen_gok cx E M k hR) fun ht h=>?_
 obtain ⟨h1,h2⟩:=andB_t ht
 have hx:=tag_get (S:=M.S) h1 dec_ptr (by decide) (by decide)
 obtain ⟨v,h3,h4,h5,h6⟩:=canT_ok h2
 have hy:opnd (view E M.S) y=some v:=by
  obtain ⟨u,e1,_,e2,_⟩:=gW_ok (S:=M.S) (tagOK_of_dec h3)
  rw [h3] at e2
  rw [e1,e2]
 replace h:stM ((gW x).run E) (canW ((gW y).run E)) E k (genG TT (.store t x y) none cx E M k) M.S M.H M.nx M.D=1:=h
 unfold stM at h
 rcases ho:M.H.get (f0 ((gW x).run E)) with _|ob
 ·rw [ho] at h; exact gen_gok cx E M k hR h
 ·rw [ho] at h
  cases ob with
  | mp es cl=>exact gen_gok cx E M k hR h
  | si _ _ _=>exact gen_gok cx E M k hR h
  | c e n kn s =>
   cases s with
   | pk c =>
    refine bool_split (h:stC _ _ _ _ _ _ _ _ _ _ _ _ _=1) (gen_gok cx E M k hR) fun hb h=>?_
    refine ⟨E,_,undA,h,.inl ⟨?_,rfl⟩,rfl⟩
    have hb:f1 ((gW x).run E)<n:=blt_t hb
    have hle:Nat.ble (Nat.add (f1 ((gW x).run E)) 1) n=true:=Nat.ble_eq_true_of_le hb
    have e:storeA TT M.H (view E M.S) M.nx t x y=some (undA,M.H.put (.c e n kn (.pk (putN c (offs (f1 ((gW x).run E))) (canW ((gW y).run E))))) (f0 ((gW x).run E)),M.nx):=by
     unfold storeA
     simp only [hx,hy,h4,ho,hs,List.length_singleton,hle,CT.write,h6]; rfl
    simp only [stepO,doE,e,ofE]
   | _=>exact gen_gok cx E M k hR h
theorem al_step {op:Op} {d:Nat} {b:AO} {cx:Cx} {E:Nat} {M:Mm} {k:K0} (hR:RR TT FT SM cx.R) (he:doE TT (view E M.S) M.H M.nx op=some (.p M.nx 0,M.H.put b M.nx,Nat.succ M.nx)) (ho:stepO TT (view E M.S) M.H M.nx op=ofE (doE TT (view E M.S) M.H M.nx op))
  (h:inM M (alM b d E k (genG TT op (some d) cx E M k))=1):DoesO TT FT SM op (some d) E M k:=by
 replace h:alM b d E k (genG TT op (some d) cx E M k) M.S M.H M.nx M.D=1:=h
 refine bool_split h (gen_gok cx E M k hR) fun hs h=>?_
 exact ⟨_,_,.p M.nx 0,h,.inl ⟨by rw [ho,he]; rfl,rfl⟩,view_small (mkP_ok (blt_t hs) (by decide))⟩
theorem al_gok {t d:Nat} {z:AV} {l:List AV} (hz:zerT TT t=some z) (hl:cellsO z=some l):GOk TT FT SM (.alloc t) (some d) (alG (blkA t l) d (genG TT (.alloc t) (some d))):=by
 intro cx E M k hR h
 exact al_step (b:=blkA t l) hR (by simp only [doE,allocA,hz,hl]) G h
theorem bx_gok {t d:Nat} {x:Operand}:GOk TT FT SM (.box t x) (some d) (bxG t d (gW x).run (genG TT (.box t x) (some d))):=by
 intro cx E M k hR h
 refine bool_split (h:Bool.rec (motive:=fun _=>Nat) _ _ (canT (canW ((gW x).run E)))=1) (gen_gok cx E M k hR) fun ht h=>?_
 obtain ⟨v,h3,h4,h5,h6⟩:=canT_ok ht
 have hx:opnd (view E M.S) x=some v:=by
  obtain ⟨u,e1,_,e2,_⟩:=gW_ok (S:=M.S) (tagOK_of_dec h3)
  rw [h3] at e2
  rw [e1,e2]
 refine al_step (b:=.c t 1 true (.pk (putN 0 256 (canW ((gW x).run E))))) hR ?_ rfl h
 have e:blkA t [v]=.c t 1 true (.pk (putN 0 256 (canW ((gW x).run E)))):=by
  unfold blkA cellsOf
  simp only [List.length_singleton]
  rw [show Nat.ble 1 600=true from rfl,cond_true,h6]; rfl
 simp only [doE,boxA,hx,h4,e]
theorem mkS_ok {a b c d:Nat} (ha:a<16777216) (hb:b<16777216) (hc:c<16777216) (hd:d<16777216):WR (mkS a b c d) (.sl a b c d true):=by
 have:=enc_wr (.sl a b c d true)
 have e:enc (.sl a b c d true)=mkS a b c d:=by
  show (bif and (and (small a) (small b)) (and (small c) (small d)) then _ else 255)=_
  rw [show small a=true from Nat.ble_eq_true_of_le ha,show small b=true from Nat.ble_eq_true_of_le hb,show small c=true from Nat.ble_eq_true_of_le hc,show small d=true from Nat.ble_eq_true_of_le hd]; rfl
 rw [e] at this
 refine this.resolve_left fun e2=>?_
 have e3:12+(256*a+4294967296*b+(72057594037927936*c+1208925819614629174706176*d))=255:=e2
 omega
theorem f3_lt (w:Nat):f3 w<16777216:=Nat.mod_lt _ (by decide)
theorem f1_lt (w:Nat):f1 w<16777216:=Nat.mod_lt _ (by decide)
theorem bs_gok {t e d:Nat} {parts:Array (Nat × Operand)} {x:Operand} {z z0:AV} (hp:parts.toList=[(0,x)]) (hu:undT TT t=some (.slice e)) (hs:sizT TT e=some 1) (hz:zerT TT e=some z) (hl:cellsO z=some [z0]) :
  GOk TT FT SM (.buildSlice t 1 parts) (some d) (bsG e d (gW x).run (genG TT (.buildSlice t 1 parts) (some d))):=by
 intro cx E M k hR h
 refine bool_split (h:Bool.rec (motive:=fun _=>Nat) _ _ (canT (canW ((gW x).run E)))=1) (gen_gok cx E M k hR) fun ht h=>?_
 obtain ⟨v,h3,h4,h5,h6⟩:=canT_ok ht
 have hx:opnd (view E M.S) x=some v:=by
  obtain ⟨u,e1,_,e2,_⟩:=gW_ok (S:=M.S) (tagOK_of_dec h3)
  rw [h3] at e2
  rw [e1,e2]
 replace h:bsM e (canW ((gW x).run E)) d E k (genG TT (.buildSlice t 1 parts) (some d) cx E M k) M.S M.H M.nx M.D=1:=h
 refine bool_split h (gen_gok cx E M k hR) fun hsm h=>?_
 have e1:blkA e [v]=.c e 1 true (.pk (putN 0 256 (canW ((gW x).run E)))):=by
  unfold blkA cellsOf
  simp only [List.length_singleton]
  rw [show Nat.ble 1 600=true from rfl,cond_true,h6]; rfl
 have he:doE TT (view E M.S) M.H M.nx (.buildSlice t 1 parts)=some (.sl M.nx 0 1 1 true,M.H.put (.c e 1 true (.pk (putN 0 256 (canW ((gW x).run E))))) M.nx,Nat.succ M.nx):=by
  have hf:fillA (fun i=>some (i*1,1)) (repA [z0] 1) [(0,v)]=some [v]:=by
   simp only [fillA,h4]; rfl
  have ho:opndL (view E M.S) [x]=some [v]:=by simp only [opndL,hx]
  simp only [doE,buildSA,hu,hp,List.map_cons,List.map_nil,ho,hz,hl,hs,pairA,hf,← e1]; rfl
 exact ⟨_,_,.sl M.nx 0 1 1 true,h,.inl ⟨by rw [show stepO TT (view E M.S) M.H M.nx (.buildSlice t 1 parts)=ofE (doE TT (view E M.S) M.H M.nx (.buildSlice t 1 parts)) from rfl,he]; rfl,rfl⟩,view_small (mkS_ok (blt_t hsm) (by decide) (by decide) (by decide))⟩
theorem pkO_split {o:Option AO} {fb:Nat} {f:Nat→Nat→Bool→Nat→Nat} {P:Prop} (h:pkO o fb f=1) (h0:fb=1→P) (h1:∀ e n kn c,o=some (.c e n kn (.pk c))→f e n kn c=1→P):P:=by
 cases o with
 | none=>exact h0 h
 | some b =>
  cases b with
  | mp es cl=>exact h0 h
  | si _ _ _=>exact h0 h
  | c e n kn s =>
   cases s with
   | pk c=>exact h1 e n kn c G h
   | _=>exact h0 h
theorem ap_gok {c:Call} {x y:Operand} {t tx e e2 by' d:Nat} (hc:c.callee=.builtin .append) (ha:c.args.toList=[x,y]) (ht:c.argTypes.toList=[t,tx]) (hu:undT TT t=some (.slice e)) (hs:sizT TT e=some 1) (hb:bytT TT e=some by') (hby:Nat.blt 0 by'=true) (hux:undT TT tx=some (.slice e2)) :
  GOk TT FT SM (.call c) (some d) (apG d (gW x).run (gW y).run (genG TT (.call c) (some d))):=by
 intro cx E M k hR h
 replace h:apM ((gW x).run E) ((gW y).run E) d E k (genG TT (.call c) (some d) cx E M k) M.S M.H M.nx M.D=1:=h
 refine bool_split h (gen_gok cx E M k hR) fun hc1 h=>?_
 obtain ⟨hc1,hc2⟩:=andB_t hc1
 obtain ⟨hc2,hc3⟩:=andB_t hc2
 obtain ⟨hc3,hc4⟩:=andB_t hc3
 refine pkO_split h (gen_gok cx E M k hR) fun es ns ks cs hos h=>?_
 refine bool_split (h:apD _ _ _ _ _ _ _ _ _ _ _ _ _ _=1) (gen_gok cx E M k hR) fun hc5 h=>?_
 refine bool_split (h:apC _ _ _ _ _ _ _ _ _ _=1) (gen_gok cx E M k hR) fun hc6 h=>?_
 refine pkO_split h (gen_gok cx E M k hR) fun ed nd kd cd hod h=>?_
 refine bool_split (h:apB _ _ _ _ _ _ _ _ _ _ _ _ _ _=1) (gen_gok cx E M k hR) fun hc7 h=>?_
 have hx:opnd (view E M.S) x=some (.sl (f0 ((gW x).run E)) (f1 ((gW x).run E)) (f2 ((gW x).run E)) (f3 ((gW x).run E)) true):=gW_dec (beq_t hc1) (by decide) (by decide) (dec_slk (beq_t hc1))
 obtain ⟨b,hy⟩:=sl_get (S:=M.S) hc2
 obtain ⟨v,h3,h4,h5,h6⟩:=canT_ok hc6
 have hlt:=blt_t hc4
 have hl3:=f3_lt ((gW x).run E)
 have hrd:rdA M.H 1 1 (.sl (f0 ((gW y).run E)) (f1 ((gW y).run E)) 1 (f3 ((gW y).run E)) b)=some [v]:=by
  have hr:readN (.c es ns ks (.pk cs)) 1 (f1 ((gW y).run E))=some [v]:=by
   show (bif Nat.ble (Nat.add (f1 ((gW y).run E)) 1) ns then unpk cs 1 (f1 ((gW y).run E)) else none)=_
   rw [show Nat.ble (Nat.add (f1 ((gW y).run E)) 1) ns=true from hc5]
   simp only [cond_true,unpk,h3]
  simp only [rdA,hos]
  rw [show Nat.ble 1 1=true from rfl]
  exact hr
 have hsrc:srcZ TT M.H e 1 tx (.sl (f0 ((gW y).run E)) (f1 ((gW y).run E)) (f2 ((gW y).run E)) (f3 ((gW y).run E)) b)=some (1,[v]):=by
  rw [beq_t hc3]
  simp only [srcZ,srcA,hux,lenN,hrd]
 have hq:Nat.ble (Nat.add (f2 ((gW x).run E)) 1) (f3 ((gW x).run E))=true:=hc4
 have hn:Nat.ble (Nat.add (f1 ((gW x).run E)) (Nat.mul (Nat.add (f2 ((gW x).run E)) 1) 1)) nd=true:=by
  rw [show Nat.mul (Nat.add (f2 ((gW x).run E)) 1) 1=Nat.succ (f2 ((gW x).run E)) from Nat.mul_one _]; exact hc7
 have hap:appA TT M.H M.nx e 1 1 [v] (.sl (f0 ((gW x).run E)) (f1 ((gW x).run E)) (f2 ((gW x).run E)) (f3 ((gW x).run E)) true) =
   some (.sl (f0 ((gW x).run E)) (f1 ((gW x).run E)) (Nat.succ (f2 ((gW x).run E))) (f3 ((gW x).run E)) true,M.H.put (.c ed nd kd (.pk (putN cd (offs (Nat.add (f1 ((gW x).run E)) (f2 ((gW x).run E)))) (canW (slot cs (offs (f1 ((gW y).run E)))))))) (f0 ((gW x).run E)),M.nx):=by
  unfold appA
  rw [show Nat.beq 1 0=false from rfl]
  have hw:CT.write (.pk cd) [v] (Nat.add (f1 ((gW x).run E)) (Nat.mul (f2 ((gW x).run E)) 1))=.pk (putN cd (offs (Nat.add (f1 ((gW x).run E)) (f2 ((gW x).run E)))) (canW (slot cs (offs (f1 ((gW y).run E)))))):=by
   rw [show Nat.mul (f2 ((gW x).run E)) 1=f2 ((gW x).run E) from Nat.mul_one _]
   simp only [CT.write,h6]
  simp only [cond_false,hb,hod,cond_true,hq,hn,hw]
 have he:doE TT (view E M.S) M.H M.nx (.call c)=appA TT M.H M.nx e 1 1 [v] (.sl (f0 ((gW x).run E)) (f1 ((gW x).run E)) (f2 ((gW x).run E)) (f3 ((gW x).run E)) true):=by
  simp only [doE,hc,appO,ha,ht,hx,hy,hu,hs,hb,hby,hsrc]
  first|done|rfl
 refine ⟨_,_,.sl (f0 ((gW x).run E)) (f1 ((gW x).run E)) (Nat.succ (f2 ((gW x).run E))) (f3 ((gW x).run E)) true,h,.inl ⟨?_,rfl⟩,view_small (mkS_ok (f0_lt _) (f1_lt _) (by have:f2 ((gW x).run E)<f3 ((gW x).run E):=hlt; show f2 _+1<_; omega) hl3)⟩
 simp only [stepO,hc,he,hap,ofE]
theorem argT_ok :∀ {l:List Operand} {E:Nat} {S:SL},(argT l).run E=true→∃ vs,opndL (view E S) l=some vs∧∀ i acc,view ((argC l i).run E acc) []=argsT vs (view acc []) i
 | [],E,S,h=>⟨[],rfl,fun i acc=>rfl⟩
 | x::l,E,S,h=>by
  obtain ⟨h1,h2⟩:=andB_t (show andB (tagOK ((gW x).run E)) ((argT l).run E)=true from h)
  obtain ⟨v,e1,e2⟩:=gW_ok (S:=S) h1
  obtain ⟨vs,e3,e4⟩:=argT_ok (S:=S) h2
  refine ⟨v::vs,by simp only [opndL,e1,e3],fun i acc=>?_⟩
  show view ((argC l (Nat.succ i)).run E (putN acc (offs i) ((gW x).run E))) []=_
  rw [e4,view_small e2]; rfl
theorem opndL_len :∀ {l:List Operand} {E:En} {vs:List AV},opndL E l=some vs→vs.length=l.length
 | [],E,vs,h=>by simp only [opndL,Option.some.injEq] at h; subst h; rfl
 | x::l,E,vs,h=>by
  simp only [opndL] at h
  split at h
  ·cases h
  ·split at h
   ·cases h
   ·rename_i us hu
    simp only [Option.some.injEq] at h; subst h
    simp [opndL_len hu]
theorem ca_gok {c:Call} {f:Nat} {o:Option Nat} (hc:c.callee=.value (.func f)):GOk TT FT SM (.call c) o (caG f c.args.toList.length (argC c.args.toList 0) (argT c.args.toList) o (genG TT (.call c) o)):=by
 intro cx E M k hR h
 refine bool_split (h:Bool.rec (motive:=fun _=>Nat) _ _ ((argT c.args.toList).run E)=1) (gen_gok cx E M k hR) fun ht h=>?_
 obtain ⟨vs,e1,e2⟩:=argT_ok (S:=M.S) ht
 replace h:cx.R.rw f ((argC c.args.toList 0).run E 0) c.args.toList.length M.H M.nx (retK o E M.S M.D k)=1:=h
 obtain ⟨v,w,v',H,nx,hE,hw,h⟩:=hR.w h (opndL_len e1) (by rw [e2,view_zero])
 obtain ⟨E',M',h1,h2⟩:=putO_ok hw (h:putO w v' o E ⟨M.S,H,nx,M.D⟩ k=1)
 obtain ⟨g1,g2,g3,g4⟩:=abs_inj (E:=E) (M:=M) h1
 refine ⟨E',M',v,h2,.inr (.inl ⟨f,vs,?_,by rw [g2,g3]; exact hE,g4⟩),g1⟩
 have hf:opnd (view E M.S) (.func f)=some (.f f [] []):=rfl
 simp only [stepO,hc,hf,e1,List.nil_append,List.append_nil]
theorem effG_ok {op:Op} {o:Option Nat}:GOk TT FT SM op o (effG TT op o).run:=by
 unfold effG
 split
 ·split
  ·exact gen_gok
  ·split
   ·rename_i hs; exact st_gok hs
   ·exact gen_gok
 ·split
  ·exact gen_gok
  ·split
   ·exact gen_gok
   ·rename_i z hz
    split
    ·exact gen_gok
    ·rename_i l hl; exact al_gok hz hl
 ·split
  ·exact gen_gok
  ·exact bx_gok
 ·split
  ·exact gen_gok
  ·split
   ·split
    ·rename_i x hp
     split
     ·rename_i e hu
      split
      ·rename_i hs
       split
       ·exact gen_gok
       ·rename_i z hz
        split
        ·rename_i z0 hl; exact bs_gok hp hu hs hz hl
        ·exact gen_gok
      ·exact gen_gok
     ·exact gen_gok
    ·exact gen_gok
   ·exact gen_gok
 ·split
  ·rename_i hc
   split
   ·exact gen_gok
   ·split
    ·rename_i x y ha
     split
     ·rename_i t tx ht
      split
      ·rename_i e hu
       split
       ·rename_i hs
        split
        ·exact gen_gok
        ·rename_i by' hb
         rcases hby:Nat.blt 0 by' with _|_
         ·exact gen_gok
         ·rw [cond_true]
          split
          ·rename_i e2 hux; exact ap_gok hc ha ht hu hs hb hby hux
          ·exact gen_gok
       ·exact gen_gok
      ·exact gen_gok
     ·exact gen_gok
    ·exact gen_gok
  ·rename_i f hc; exact ca_gok hc
  ·exact gen_gok
 ·exact gen_gok
theorem opG_ok {op:Op} {o:Option Nat}:GOk TT FT SM op o (opG TT op o).run:=by
 unfold opG
 split
 ·exact effG_ok
 ·split
  ·rename_i f hf; exact fast_gok (wfO_ok hf)
  ·exact effG_ok
theorem view_tag {E:Nat} {S:SL} {d:Nat}:(tagN (slot E (offs d))=9→(view E S).get d=some (.b true))∧(tagN (slot E (offs d))=1→(view E S).get d=some (.b false))∧(tagN (slot E (offs d))=8→(view E S).get d=some (.tu [])):=by
 refine ⟨fun h=>?_,fun h=>?_,fun h=>?_⟩<;>rw [view_eq,if_neg (by rw [h]; decide)]
 ·exact dec_t h
 ·exact dec_f h
 ·unfold dec; rw [h]; rfl
def LOk (TT:Nat→Option TI) (FT:Nat→Option Func) (SM:T Summ) (n:Nat) (ops:Array Oper) (o:Oper) (E:Nat) (M:Mm) (k:K0):Prop:=∃ E' M',k E' M'=1∧∃ F,∀ F',F≤F'→∀ rest,runL TT (exec TT FT SM F') n ops (o::rest) (absS E M)=runL TT (exec TT FT SM F') n ops rest (absS E' M')
theorem does_list {n:Nat} {ops:Array Oper} {o:Oper} (hd:dstOk n o.dst=true) {E:Nat} {M:Mm} {k:K0} (hw:wantA ops (view E M.S) o.guard=some true) (h:DoesO TT FT SM o.op o.dst E M k):LOk TT FT SM n ops o E M k:=by
 obtain ⟨E',M',v,h1,h2,h3⟩:=h
 rcases h2 with ⟨h2,h4⟩|⟨f,vs,h2,⟨F,hF⟩,h4⟩|⟨f,cap,vs,h2,rfl,h5,h6,h7⟩
 ·refine ⟨E',M',h1,0,fun F' _ rest=>?_⟩
  rw [runL_cons hd]
  simp only [absS,hw,h2,h3,h4]
 ·refine ⟨E',M',h1,F,fun F' hF' rest=>?_⟩
  have hF:=hF F' hF'
  rw [runL_cons hd]
  simp only [absS,hw,h2,h3,h4,hF]
 ·refine ⟨E',M',h1,0,fun F' _ rest=>?_⟩
  rw [runL_cons hd]
  simp only [absS,hw,h2,h3,h5,h6,h7]
theorem skip_list {n:Nat} {ops:Array Oper} {o:Oper} (hd:dstOk n o.dst=true) {E:Nat} {M:Mm} {k:K0} (hw:wantA ops (view E M.S) o.guard=some false) (h:putO 8 undA o.dst E M k=1):LOk TT FT SM n ops o E M k:=by
 obtain ⟨E',M',h1,h2⟩:=putO_ok und_vw h
 refine ⟨E',M',h2,0,fun F' _ rest=>?_⟩
 rw [h1,runL_cons hd]
 simp only [absS,hw]
theorem gd_ok {n:Nat} {ops:Array Oper} {o:Oper} (hd:dstOk n o.dst=true) {g:Gn} (hg:GOk TT FT SM o.op o.dst g.run) {cx:Cx} {E:Nat} {M:Mm} {k:K0} (hR:RR TT FT SM cx.R) (h:(gdG ops o g).run cx E M k=1):LOk TT FT SM n ops o E M k:=by
 unfold gdG at h
 rcases hgd:o.guard with _|⟨j,w⟩
 ·simp only [hgd] at h
  exact does_list hd (by rw [hgd]; rfl) (hg cx E M k hR h)
 ·simp only [hgd] at h
  rcases hb:(ops[j]?).bind (·.dst) with _|d
  ·simp only [hb] at h
   exact skip_list hd (by rw [hgd]; simp only [wantA,hb]) h
  ·simp only [hb] at h
   obtain ⟨t9,t1,t8⟩:=@view_tag E M.S d
   cases w with
   | true =>
    simp only [guardG,cond_true,cond_eq_ite (Nat.beq _ _),cond_eq_ite (or _ _),Nat.beq_eq,Bool.or_eq_true] at h
    split at h
    ·rename_i e; exact does_list hd (by rw [hgd]; simp only [wantA,hb,t9 e]; rfl) (hg cx E M k hR h)
    ·split at h
     ·rename_i e
      rcases e with e|e
      ·exact skip_list hd (by rw [hgd]; simp only [wantA,hb,t1 e]; rfl) h
      ·exact skip_list hd (by rw [hgd]; simp only [wantA,hb,t8 e]) h
     ·exact absurd h (stop_ne _ _ _)
   | false =>
    simp only [guardG,cond_false,cond_eq_ite (Nat.beq _ _),cond_eq_ite (or _ _),Nat.beq_eq,Bool.or_eq_true] at h
    split at h
    ·rename_i e; exact does_list hd (by rw [hgd]; simp only [wantA,hb,t1 e]; rfl) (hg cx E M k hR h)
    ·split at h
     ·rename_i e
      rcases e with e|e
      ·exact skip_list hd (by rw [hgd]; simp only [wantA,hb,t9 e]; rfl) h
      ·exact skip_list hd (by rw [hgd]; simp only [wantA,hb,t8 e]) h
     ·exact absurd h (stop_ne _ _ _)
theorem cOp_ok {n:Nat} {ops:Array Oper} {o:Oper} {cx:Cx} {E:Nat} {M:Mm} {k:K0} (hR:RR TT FT SM cx.R) (h:(cOp TT n ops o).run cx E M k=1):LOk TT FT SM n ops o E M k:=by
 unfold cOp at h
 by_cases hd:dstOk n o.dst=true
 ·rw [hd] at h
  exact gd_ok hd opG_ok hR h
 ·rw [Bool.eq_false_iff.2 hd] at h
  exact absurd h (stop_ne _ _ _)
theorem cL_ok (n:Nat) (ops:Array Oper):∀ (l:List Oper) {cx:Cx} {E:Nat} {M:Mm} {k:K0} {a:Ka},RR TT FT SM cx.R→(cL TT n ops l).run cx E M k a=1 →
  ∃ E' M',k E' M'=1∧∃ F,∀ F',F≤F'→runL TT (exec TT FT SM F') n ops l (absS E M)=.ok .normal (absS E' M')
 | [],cx,E,M,k,a,hR,h=>⟨E,M,h,0,fun F' _=>rfl⟩
 | o::l,cx,E,M,k,a,hR,h=>by
  obtain ⟨E1,M1,h1,F1,g1⟩:=cOp_ok hR (h:(cOp TT n ops o).run cx E M _=1)
  obtain ⟨E2,M2,h2,F2,g2⟩:=cL_ok n ops l (cx:=cx) hR h1
  exact ⟨E2,M2,h2,max F1 F2,fun F' hF'=>by rw [g1 F' (by omega),g2 F' (by omega)]⟩
end
end
end Ab
end Sl
end Go.Proofs.YtfahijncpmlhjaaGreat
namespace Go.Proofs.YtfahijncpmlhjaaGreat
open Go Go.RowKit
namespace Sl
namespace Ab
noncomputable section
abbrev KW :=PW→Nat→Mm→Nat
abbrev GW :=Cx→PW→Nat→Mm→KW→Nat
structure Gw where
 mk ::
 run:GW
structure Wn where
 mk ::
 run:Cx→PW→Nat→Mm→K0→Nat
section
variable (TT:Nat→Option TI)
def guardW (w:Bool) (d:Nat) (o:Option Nat) (g:GW):GW:=fun cx W E M k =>
 bif Nat.beq (tagN (slot E (offs d))) (bif w then 9 else 1) then g cx W E M k else
 bif or (Nat.beq (tagN (slot E (offs d))) (bif w then 1 else 9)) (Nat.beq (tagN (slot E (offs d))) 8) then putO 8 undA o E M (k W) else stop cx 1 o
def skipW (o:Option Nat):GW:=fun cx W E M k=>putO 8 undA o E M (k W)
def gdW (ops:Array Oper) (o:Oper) (g:Gw):Gw:=match o.guard with
 | none=>g
 | some (j,w)=>match (ops[j]?).bind (·.dst) with
  | none=>.mk (skipW o.dst)
  | some d=>.mk (guardW w d o.dst g.run)
def quietK (cx:Cx) (E:Nat) (M:Mm) (o:Option Nat) (k:K0):Option AV→Nat
 | some v=>putO (enc v) v o E M k
 | none=>stop cx 7 o
def loadK (cx:Cx) (i t:Nat) (W:PW) (E:Nat) (M:Mm) (o:Option Nat) (k:KW):Option (AV × Nat × Nat)→Nat
 | some (v,id,off)=>putO (enc v) v o E M (k ((i,t,id,off,v)::W))
 | none=>stop cx 6 o
def pureW (op:Op) (o:Option Nat):GW:=fun cx W E M k=>quietK cx E M o (k W) (doP TT (view E M.S) op)
def fastW (f:Nat→Mm→Nat) (d:Nat) (g:GW):GW:=fun cx W E M k=>Bool.rec (motive:=fun _=>Nat) (g cx W E M k) (k W (putN E (offs d) (f E M)) M) (tagOK (f E M))
def quietG (op:Op) (o:Option Nat) (i:Nat):Gw:=match op with
 | .load t x=>.mk fun cx W E M k=>loadK cx i t W E M o k (loadO TT (view E M.S) M.H t x)
 | op=>match o with
  | none=>.mk (pureW TT op o)
  | some d=>match wfO TT op with
   | none=>.mk (pureW TT op o)
   | some f=>.mk (fastW f.run d (pureW TT op o))
def afterK (cx:Cx) (w:Nat) (v:AV) (o:Option Nat) (E:Nat) (M:Mm) (k:KW):Option PW→Nat
 | some W=>putO w v o E M (k W)
 | none=>stop cx 11 o
def effK (cx:Cx) (ops:Array Oper) (i:Nat) (W:PW) (E:Nat) (M:Mm) (o:Option Nat) (k:KW):Out→Nat
 | .val (v,H,nx)=>afterK cx (enc v) v o E (M.heap H nx) k (rechk TT ops i H W)
 | .call f vs=>cx.R.rv true f vs M.H M.nx fun w v H nx=>afterK cx w v o E (M.heap H nx) k (rechk TT ops i H W)
 | _=>stop cx 13 o
def effW (ops:Array Oper) (op:Op) (o:Option Nat) (i:Nat):GW:=fun cx W E M k=>effK TT cx ops i W E M o k (stepO TT (view E M.S) M.H M.nx op)
def nowK (cx:Cx) (d:Nat) (E:Nat) (M:Mm) (k:K0):Option Eff→Nat
 | some (v,H,nx)=>putX (enc v) v d E (M.heap H nx) k
 | none=>stop cx 16 (some d)
def badW (c:Nat):Wn:=.mk fun cx _ _ _ _=>stop cx c none
def thenW (g:Gw) (r:Wn):Wn:=.mk fun cx W E M k=>g.run cx W E M fun W E M=>r.run cx W E M k
def nowG (d t:Nat):Gw:=.mk fun cx W E M k=>nowK cx d E M (k W) (nowA TT M.H M.nx t)
def cW (n:Nat) (ops:Array Oper):List Item→List (Nat × Nat × Nat)→Wn
 | [],_=>.mk fun _ _ E M k=>k E M
 | .q i::rest,F=>match ops[i]? with
  | none=>badW 4
  | some o=>bif and (dstOk n o.dst) (notIn o.dst F) then thenW (gdW ops o (quietG TT o.op o.dst i)) (cW n ops rest F) else badW 8
 | .e i::rest,F=>match ops[i]? with
  | none=>badW 9
  | some o=>bif and (dstOk n o.dst) (notIn o.dst F) then thenW (gdW ops o (.mk (effW TT ops o.op o.dst i))) (cW n ops rest F) else badW 14
 | .now j::rest,F=>match F with
  | []=>badW 15
  | (j',d,t)::F'=>bif Nat.beq j j' then thenW (nowG TT d t) (cW n ops rest F') else badW 17
end
section
variable {TT:Nat→Option TI} {FT:Nat→Option Func} {SM:T Summ}
def WOk (TT:Nat→Option TI) (FT:Nat→Option Func) (SM:T Summ) (n:Nat) (ops:Array Oper) (it:Item) (F F':List (Nat × Nat × Nat)) (W:PW) (E:Nat) (M:Mm) (k:KW):Prop :=
 ∃ W' E' M',k W' E' M'=1∧∃ B,∀ f,B≤f→∀ rest,runW TT (exec TT FT SM f) n ops (it::rest) F W (absS E M)=runW TT (exec TT FT SM f) n ops rest F' W' (absS E' M')
theorem gdW_ok {n:Nat} {ops:Array Oper} {o:Oper} {it:Item} {F:List (Nat × Nat × Nat)} {g:Gw} {cx:Cx} {W:PW} {E:Nat} {M:Mm} {k:KW}
  (hs:wantA ops (view E M.S) o.guard=some false→∀ rec rest,runW TT rec n ops (it::rest) F W (absS E M)=runW TT rec n ops rest F W ⟨putT (view E M.S) o.dst undA,M.H,M.nx,M.D⟩)
  (hg:wantA ops (view E M.S) o.guard=some true→g.run cx W E M k=1→WOk TT FT SM n ops it F F W E M k) (h:(gdW ops o g).run cx W E M k=1):WOk TT FT SM n ops it F F W E M k:=by
 have skip:wantA ops (view E M.S) o.guard=some false→putO 8 undA o.dst E M (k W)=1→WOk TT FT SM n ops it F F W E M k:=by
  intro hw h
  obtain ⟨E',M',h1,h2⟩:=putO_ok und_vw h
  exact ⟨W,E',M',h2,0,fun f _ rest=>by rw [h1,hs hw]⟩
 unfold gdW at h
 rcases hgd:o.guard with _|⟨j,w⟩
 ·simp only [hgd] at h
  exact hg (by rw [hgd]; rfl) h
 ·simp only [hgd] at h
  rcases hb:(ops[j]?).bind (·.dst) with _|d
  ·simp only [hb] at h
   exact skip (by rw [hgd]; simp only [wantA,hb]) h
  ·simp only [hb] at h
   obtain ⟨t9,t1,t8⟩:=@view_tag E M.S d
   cases w with
   | true =>
    simp only [guardW,cond_true,cond_eq_ite (Nat.beq _ _),cond_eq_ite (or _ _),Nat.beq_eq,Bool.or_eq_true] at h
    split at h
    ·rename_i e; exact hg (by rw [hgd]; simp only [wantA,hb,t9 e]; rfl) h
    ·split at h
     ·rename_i e
      rcases e with e|e
      ·exact skip (by rw [hgd]; simp only [wantA,hb,t1 e]; rfl) h
      ·exact skip (by rw [hgd]; simp only [wantA,hb,t8 e]) h
     ·exact absurd h (stop_ne _ _ _)
   | false =>
    simp only [guardW,cond_false,cond_eq_ite (Nat.beq _ _),cond_eq_ite (or _ _),Nat.beq_eq,Bool.or_eq_true] at h
    split at h
    ·rename_i e; exact hg (by rw [hgd]; simp only [wantA,hb,t1 e]; rfl) h
    ·split at h
     ·rename_i e
      rcases e with e|e
      ·exact skip (by rw [hgd]; simp only [wantA,hb,t9 e]; rfl) h
      ·exact skip (by rw [hgd]; simp only [wantA,hb,t8 e]) h
     ·exact absurd h (stop_ne _ _ _)
theorem runW_q {rec:Tk→Rs} {n:Nat} {ops:Array Oper} {i:Nat} {o:Oper} {rest:List Item} {F:List (Nat × Nat × Nat)} {W:PW} {s:S} (hi:ops[i]?=some o) (h:and (dstOk n o.dst) (notIn o.dst F)=true) :
  runW TT rec n ops (.q i::rest) F W s=match wantA ops s.E o.guard with
   | none=>.bad (why 5 o.dst)
   | some false=>runW TT rec n ops rest F W ⟨putT s.E o.dst undA,s.H,s.nx,s.D⟩
   | some true=>match o.op with
    | .load t x=>(match loadO TT s.E s.H t x with
     | some (v,id,off)=>runW TT rec n ops rest F ((i,t,id,off,v)::W) ⟨putT s.E o.dst v,s.H,s.nx,s.D⟩
     | none=>.bad (why 6 o.dst))
    | op=>match doP TT s.E op with
     | some v=>runW TT rec n ops rest F W ⟨putT s.E o.dst v,s.H,s.nx,s.D⟩
     | none=>.bad (why 7 o.dst):=by
 rw [runW,hi]; simp only [h]; rfl
theorem runW_e {rec:Tk→Rs} {n:Nat} {ops:Array Oper} {i:Nat} {o:Oper} {rest:List Item} {F:List (Nat × Nat × Nat)} {W:PW} {s:S} (hi:ops[i]?=some o) (h:and (dstOk n o.dst) (notIn o.dst F)=true) :
  runW TT rec n ops (.e i::rest) F W s=match wantA ops s.E o.guard with
   | none=>.bad (why 10 o.dst)
   | some false=>runW TT rec n ops rest F W ⟨putT s.E o.dst undA,s.H,s.nx,s.D⟩
   | some true=>match stepO TT s.E s.H s.nx o.op with
    | .val (v,H,nx)=>(match rechk TT ops i H W with
     | some W'=>runW TT rec n ops rest F W' ⟨putT s.E o.dst v,H,nx,s.D⟩
     | none=>.bad (why 11 o.dst))
    | .call k vs=>(match rec (.fn k vs s.H s.nx) with
     | .val v H nx=>(match rechk TT ops i H W with
      | some W'=>runW TT rec n ops rest F W' ⟨putT s.E o.dst v,H,nx,s.D⟩
      | none=>.bad (why 12 o.dst))
     | .bad w=>.bad w
     | .ok _ _=>.bad 41)
    | _=>.bad (why 13 o.dst):=by
 rw [runW,hi]; simp only [h]; rfl
theorem wf_doP {op:Op} {f:Wf} (hf:wfO TT op=some f) (hl:∀ t x,op≠.load t x) {E:Nat} {M:Mm} (h:tagOK (f.run E M)=true):∃ v,doP TT (view E M.S) op=some v∧WR (f.run E M) v:=by
 obtain ⟨v,h1,h2⟩:=wfO_ok hf E M h
 refine ⟨v,?_,h2⟩
 have key:∀ r:Option AV,ofP M.H M.nx r=.val (v,M.H,M.nx)→r=some v:=fun r hr=>by
  cases r with
  | none=>cases hr
  | some u=>simp only [ofP,Out.val.injEq,Prod.mk.injEq] at hr; rw [hr.1]
 have key2:∀ (r:Option AV) (op:Op),(match r with|some v=>Out.val (v,M.H,M.nx)|none=>ofE (doE TT (view E M.S) M.H M.nx op))=.val (v,M.H,M.nx)→doE TT (view E M.S) M.H M.nx op=none→r=some v:=fun r op hr hn=>by
  cases r with
  | none=>simp only [hn] at hr; cases hr
  | some u=>simp only [Out.val.injEq,Prod.mk.injEq] at hr; rw [hr.1]
 cases op with
 | load t x=>exact absurd G (hl _ _)
 | move x=>exact key _ h1
 | assign x=>exact key _ h1
 | nilCheck x=>exact key _ h1
 | pick c x y=>exact key _ h1
 | unOp o t x=>exact key _ h1
 | fieldAddr t x k=>exact key _ h1
 | indexAddr t x y=>exact key _ h1
 | extract x k=>exact key _ h1
 | binOp o t x y ty=>exact key2 _ _ h1 G
 | convert s d x=>exact key2 _ _ h1 G
 | call c =>
  have hc:c.callee=.builtin .len∧∃ x t e,c.args.toList=[x]∧c.argTypes.toList=[t]∧undT TT t=some (.slice e):=by
   simp only [wfO] at hf
   split at hf
   ·rename_i h0
    refine ⟨h0,?_⟩
    split at hf
    ·rename_i x hx
     split at hf
     ·rename_i t ht
      split at hf
      ·rename_i e he; exact ⟨x,t,e,hx,ht,he⟩
      ·cases hf
     ·cases hf
    ·cases hf
   ·cases hf
  obtain ⟨hc,x,t,e,hx,ht,he⟩:=hc
  simp only [stepO,hc] at h1
  refine key2 _ _ h1 ?_
  simp only [doE,hc,lnO,hx,ht]
  split
  ·rfl
  ·simp only [lenMA,he]
 | _=>cases hf
theorem quiet_ok {n:Nat} {ops:Array Oper} {i:Nat} {o:Oper} {F:List (Nat × Nat × Nat)} {cx:Cx} {W:PW} {E:Nat} {M:Mm} {k:KW} (hi:ops[i]?=some o) (hd:and (dstOk n o.dst) (notIn o.dst F)=true)
  (h:(gdW ops o (quietG TT o.op o.dst i)).run cx W E M k=1):WOk TT FT SM n ops (.q i) F F W E M k:=by
 refine gdW_ok (fun hw rec rest=>by rw [runW_q hi hd]; simp only [absS,hw]) (fun hw h=>?_) h
 have load:∀ t x,o.op=.load t x→loadK cx i t W E M o.dst k (loadO TT (view E M.S) M.H t x)=1→WOk TT FT SM n ops (.q i) F F W E M k:=by
  intro t x ho h
  rcases hl:loadO TT (view E M.S) M.H t x with _|⟨v,id,off⟩
  ·rw [hl] at h; exact absurd h (stop_ne _ _ _)
  ·rw [hl] at h
   obtain ⟨E',M',h1,h2⟩:=putO_ok (enc_vw v) h
   exact ⟨_,E',M',h2,0,fun f _ rest=>by rw [h1,runW_q hi hd]; simp only [absS,hw,ho,hl]⟩
 have val:∀ v,(∀ t x,o.op≠.load t x)→doP TT (view E M.S) o.op=some v→(∃ E' M',absS E' M'=⟨putT (view E M.S) o.dst v,M.H,M.nx,M.D⟩∧k W E' M'=1)→WOk TT FT SM n ops (.q i) F F W E M k:=by
  rintro v ho hl ⟨E',M',h1,h2⟩
  refine ⟨W,E',M',h2,0,fun f _ rest=>?_⟩
  rw [h1,runW_q hi hd]
  simp only [absS,hw,hl]
 have pure:(∀ t x,o.op≠.load t x)→pureW TT o.op o.dst cx W E M k=1→WOk TT FT SM n ops (.q i) F F W E M k:=by
  intro ho h
  replace h:quietK cx E M o.dst (k W) (doP TT (view E M.S) o.op)=1:=h
  rcases hl:doP TT (view E M.S) o.op with _|v
  ·rw [hl] at h; exact absurd h (stop_ne _ _ _)
  ·rw [hl] at h
   exact val v ho hl (putO_ok (enc_vw v) h)
 by_cases hlo:∃ t x,o.op=.load t x
 ·obtain ⟨t,x,ho⟩:=hlo
  rw [ho] at h
  exact load t x ho h
 ·have hlo:∀ t x,o.op≠.load t x:=fun t x e=>hlo ⟨t,x,e⟩
  have hq:quietG TT o.op o.dst i=match o.dst with
   | none=>.mk (pureW TT o.op o.dst)
   | some d=>match wfO TT o.op with
    | none=>.mk (pureW TT o.op o.dst)
    | some f=>.mk (fastW f.run d (pureW TT o.op o.dst)):=by
   cases ho:o.op<;>first|rfl|exact absurd ho (hlo _ _)
  rw [hq] at h
  rcases hds:o.dst with _|d
  ·simp only [hds] at h
   rw [← hds] at h
   exact pure hlo h
  ·rcases hwf:wfO TT o.op with _|f
   ·simp only [hds,hwf] at h
    rw [← hds] at h
    exact pure hlo h
   ·simp only [hds,hwf] at h
    rw [← hds] at h
    refine bool_split (h:Bool.rec (motive:=fun _=>Nat) _ _ (tagOK (f.run E M))=1) (pure hlo) fun ht h=>?_
    obtain ⟨v,h1,h2⟩:=wf_doP hwf hlo ht
    exact val v hlo h1 ⟨_,M,by unfold absS; rw [view_small h2,hds]; rfl,h⟩
theorem eff_ok {n:Nat} {ops:Array Oper} {i:Nat} {o:Oper} {F:List (Nat × Nat × Nat)} {cx:Cx} {W:PW} {E:Nat} {M:Mm} {k:KW} (hR:RR TT FT SM cx.R) (hi:ops[i]?=some o) (hd:and (dstOk n o.dst) (notIn o.dst F)=true)
  (h:(gdW ops o (.mk (effW TT ops o.op o.dst i))).run cx W E M k=1):WOk TT FT SM n ops (.e i) F F W E M k:=by
 refine gdW_ok (fun hw rec rest=>by rw [runW_e hi hd]; simp only [absS,hw]) (fun hw h=>?_) h
 replace h:effK TT cx ops i W E M o.dst k (stepO TT (view E M.S) M.H M.nx o.op)=1:=h
 match hr:stepO TT (view E M.S) M.H M.nx o.op,h with
 | .val (v,H,nx),h =>
  replace h:afterK cx (enc v) v o.dst E (M.heap H nx) k (rechk TT ops i H W)=1:=h
  rcases hc:rechk TT ops i H W with _|W'
  ·rw [hc] at h; exact absurd h (stop_ne _ _ _)
  ·rw [hc] at h
   obtain ⟨E',M',h1,h2⟩:=putO_ok (enc_vw v) h
   exact ⟨W',E',M',h2,0,fun f _ rest=>by rw [h1,runW_e hi hd]; simp only [absS,hw,hr,hc]; rfl⟩
 | .call f vs,h =>
  obtain ⟨v,w,v',H,nx,⟨B,hB⟩,hvw,h⟩:=hR.v h
  rcases hc:rechk TT ops i H W with _|W'
  ·rw [hc] at h; exact absurd h (stop_ne _ _ _)
  ·rw [hc] at h
   obtain ⟨E',M',h1,h2⟩:=putO_ok hvw h
   refine ⟨W',E',M',h2,B,fun f hf rest=>?_⟩
   have hB:=hB f hf
   simp only [cond_true] at hB
   rw [h1,runW_e hi hd]; simp only [absS,hw,hr,hc,hB]; rfl
 | .dfr f cap vs,h=>exact absurd h (stop_ne _ _ _)
 | .bad,h=>exact absurd h (stop_ne _ _ _)
theorem cW_ok (n:Nat) (ops:Array Oper):∀ (l:List Item) (F:List (Nat × Nat × Nat)) {cx:Cx} {W:PW} {E:Nat} {M:Mm} {k:K0},RR TT FT SM cx.R→(cW TT n ops l F).run cx W E M k=1 →
  ∃ E' M',k E' M'=1∧∃ B,∀ f,B≤f→runW TT (exec TT FT SM f) n ops l F W (absS E M)=.ok .normal (absS E' M')
 | [],F,cx,W,E,M,k,hR,h=>⟨E,M,h,0,fun f _=>rfl⟩
 | it::l,F,cx,W,E,M,k,hR,h=>by
  have key:∀ F',WOk TT FT SM n ops it F F' W E M (fun W E M=>(cW TT n ops l F').run cx W E M k)→∃ E' M',k E' M'=1∧∃ B,∀ f,B≤f→runW TT (exec TT FT SM f) n ops (it::l) F W (absS E M)=.ok .normal (absS E' M'):=by
   rintro F' ⟨W1,E1,M1,h1,B1,g1⟩
   obtain ⟨E2,M2,h2,B2,g2⟩:=cW_ok n ops l F' (cx:=cx) hR h1
   exact ⟨E2,M2,h2,max B1 B2,fun f hf=>by rw [g1 f (by omega),g2 f (by omega)]⟩
  cases it with
  | q i =>
   simp only [cW] at h
   split at h
   ·exact absurd h (stop_ne _ _ _)
   ·rename_i o hi
    rw [cond_eq_ite] at h
    split at h
    ·rename_i hd
     exact key F (quiet_ok hi hd h)
    ·exact absurd h (stop_ne _ _ _)
  | e i =>
   simp only [cW] at h
   split at h
   ·exact absurd h (stop_ne _ _ _)
   ·rename_i o hi
    rw [cond_eq_ite] at h
    split at h
    ·rename_i hd
     exact key F (eff_ok hR hi hd h)
    ·exact absurd h (stop_ne _ _ _)
  | now j =>
   cases F with
   | nil=>simp only [cW] at h; exact absurd h (stop_ne _ _ _)
   | cons x F' =>
    obtain ⟨j',d,t⟩:=x
    simp only [cW,cond_eq_ite] at h
    split at h
    ·rename_i hj
     refine key F' ?_
     replace h:nowK cx d E M ((fun W E M=>(cW TT n ops l F').run cx W E M k) W) (nowA TT M.H M.nx t)=1:=h
     rcases ha:nowA TT M.H M.nx t with _|⟨v,H,nx⟩
     ·rw [ha] at h; exact absurd h (stop_ne _ _ _)
     ·rw [ha] at h
      replace h:putX (enc v) v d E (M.heap H nx) ((fun W E M=>(cW TT n ops l F').run cx W E M k) W)=1:=h
      obtain ⟨E',M',h1,h2⟩:=putX_ok (enc_vw v) h
      exact ⟨W,E',M',h2,0,fun f _ rest=>by rw [h1,runW]; simp only [hj,absS,ha]; rfl⟩
    ·exact absurd h (stop_ne _ _ _)
end
end
end Ab
end Sl
end Go.Proofs.YtfahijncpmlhjaaGreat
namespace Go.Proofs.YtfahijncpmlhjaaGreat
open Go Go.RowKit
namespace Sl
namespace Ab
noncomputable section
theorem raw_f {w d:Nat} {g:GG} {cx:Cx} {E:Nat} {M:Mm} {k:K0}:fastK (wB false w) d g cx E M k=g cx E M k:=by
 have e:wB false w=0:=rfl
 rw [e]
 unfold fastK
 rw [show tagOK 0=false by decide]
theorem bW_not (b:Bool):bW (not b)=Bool.rec (motive:=fun _=>Nat) 9 1 b:=by cases b<;>rfl
theorem raw_wB {c:Bool} {w d:Nat} {g:GG} {cx:Cx} {E:Nat} {M:Mm} {k:K0} (h:tagOK w=true):fastK (wB c w) d g cx E M k=Bool.rec (motive:=fun _=>Nat) (g cx E M k) (k (putN E (offs d) w) M) c:=by
 cases c with
 | false=>exact raw_f
 | true=>show Bool.rec (motive:=fun _=>Nat) _ _ (tagOK w)=_; rw [h]; rfl
theorem tag_mkI (k:IntKind) {u:Nat} (h:u<2 ^ 64):tagOK (mkI (kc k) u)=true:=tagOK_of_dec (mkI_ok (k:=k) h).2.1
theorem tag_bW (b:Bool):tagOK (bW b)=true:=by cases b<;>rfl
theorem tag_mkP {a b:Nat} (ha:a<16777216) (hb:b<16777216):tagOK (mkP a b)=true:=tagOK_of_dec (mkP_ok ha hb).2.1
def Hd (f:Nat→Mm→Nat) (d:Nat) (g:GG) (r:Fn):FF:=thenF (.mk (fastG f d g)) r
def movR (s sd K:Nat) (fb r:Fn):FF:=fun cx E M k a=>(fun x=>(Bool.rec (motive:=fun _=>Nat) (fb.run cx E M k a) (r.run cx (Nat.xor E (Nat.mul (Nat.xor (Nat.mod (Nat.shiftRight E sd) 340282366920938463463374607431768211456) x) K)) M k a) (Nat.beq (Nat.shiftRight (Nat.add (Nat.mod x 256) 63) 6) 1))) (Nat.mod (Nat.shiftRight E s) 340282366920938463463374607431768211456)
theorem movR_eq {t d:Nat} {g:GG} {r:Fn}:movR (offs t) (offs d) (kS (offs d)) (.mk (thenF (.mk g) r)) r=Hd (movF (gS (offs t))) d g r:=rfl
def conR (w sd K:Nat) (r:Fn):FF:=fun cx E M k a=>(r.run cx (Nat.xor E (Nat.mul (Nat.xor (Nat.mod (Nat.shiftRight E sd) 340282366920938463463374607431768211456) w) K)) M k a)
theorem conR_eq {w d:Nat} {g:GG} {r:Fn} (h:tagOK w=true):conR w (offs d) (kS (offs d)) r=Hd (movF (gC w)) d g r:=by
 funext cx E M k a
 symm
 show Bool.rec (motive:=fun _=>Nat) _ _ (tagOK w)=_
 rw [h]; rfl
def nilR (s sd K:Nat) (fb r:Fn):FF:=fun cx E M k a=>(fun x=>(Bool.rec (motive:=fun _=>Nat) (fb.run cx E M k a) (r.run cx (Nat.xor E (Nat.mul (Nat.xor (Nat.mod (Nat.shiftRight E sd) 340282366920938463463374607431768211456) x) K)) M k a) (Nat.beq (Nat.mod x 256) 10))) (Nat.mod (Nat.shiftRight E s) 340282366920938463463374607431768211456)
theorem nilR_eq {t d:Nat} {g:GG} {r:Fn}:nilR (offs t) (offs d) (kS (offs d)) (.mk (thenF (.mk g) r)) r=Hd (nilF (gS (offs t))) d g r:=by
 funext cx E M k a
 show Bool.rec (motive:=fun _=>Nat) _ _ (Nat.beq (tagN (slot E (offs t))) 10)=fastK (nil1 (slot E (offs t))) d g cx E M _
 unfold nil1
 rcases hc:Nat.beq (tagN (slot E (offs t))) 10 with _|_
 ·exact raw_f.symm
 ·symm
  show Bool.rec (motive:=fun _=>Nat) _ _ (tagOK (slot E (offs t)))=_
  rw [show tagOK (slot E (offs t))=true from tagOK_iff.2 (by have:=beq_t hc; omega)]; rfl
def fldR (f s sd K:Nat) (fb r:Fn):FF:=fun cx E M k a=>(fun x=>(Bool.rec (motive:=fun _=>Nat) (fb.run cx E M k a) (r.run cx (Nat.xor E (Nat.mul (Nat.xor (Nat.mod (Nat.shiftRight E sd) 340282366920938463463374607431768211456) (Nat.add 10 (Nat.add (Nat.mul 256 (Nat.mod (Nat.shiftRight x 8) 16777216)) (Nat.mul 4294967296 (Nat.add (Nat.mod (Nat.shiftRight x 32) 16777216) f))))) K)) M k a) (Bool.rec (motive:=fun _=>Bool) false (Nat.ble (Nat.succ (Nat.add (Nat.mod (Nat.shiftRight x 32) 16777216) f)) 16777216) (Nat.beq (Nat.mod x 256) 10)))) (Nat.mod (Nat.shiftRight E s) 340282366920938463463374607431768211456)
theorem fldR_eq {f t d:Nat} {g:GG} {r:Fn}:fldR f (offs t) (offs d) (kS (offs d)) (.mk (thenF (.mk g) r)) r=Hd (fldF f (gS (offs t))) d g r:=by
 funext cx E M k a
 show Bool.rec (motive:=fun _=>Nat) _ _ (andB (Nat.beq (tagN (slot E (offs t))) 10) (small (Nat.add (f1 (slot E (offs t))) f)))=fastK (fld1 f (slot E (offs t))) d g cx E M _
 unfold fld1
 rcases hc:andB (Nat.beq (tagN (slot E (offs t))) 10) (small (Nat.add (f1 (slot E (offs t))) f)) with _|_
 ·exact raw_f.symm
 ·symm
  show Bool.rec (motive:=fun _=>Nat) _ _ (tagOK (mkP (f0 (slot E (offs t))) (Nat.add (f1 (slot E (offs t))) f)))=_
  rw [tag_mkP (f0_lt _) (blt_t (andB_t hc).2)]; rfl
def addTT (c C p h s1 s2 sd K:Nat) (fb r:Fn):FF:=fun cx E M k a=>(fun x y=>(Bool.rec (motive:=fun _=>Nat) (fb.run cx E M k a) (r.run cx (Nat.xor E (Nat.mul (Nat.xor (Nat.mod (Nat.shiftRight E sd) 340282366920938463463374607431768211456) (Nat.add c (Nat.mul 256 (Nat.mod (Nat.add (Nat.mod (Nat.shiftRight x 8) 18446744073709551616) (Nat.mod (Nat.shiftRight y 8) 18446744073709551616)) p)))) K)) M k a) (Nat.beq (Nat.add (Nat.mod x 256) (Nat.mul 256 (Nat.mod y 256))) C))) (Nat.mod (Nat.shiftRight E s1) 340282366920938463463374607431768211456) (Nat.mod (Nat.shiftRight E s2) 340282366920938463463374607431768211456)
theorem addTT_eq {k:IntKind} {t1 t2 d:Nat} {g:GG} {r:Fn}:addTT (kc k) (Nat.mul 257 (kc k)) (pwK k) (hfK k) (offs t1) (offs t2) (offs d) (kS (offs d)) (.mk (thenF (.mk g) r)) r=Hd (binF (kc k) (ariW (kc k) (addX (pwK k))) (gS (offs t1)) (gS (offs t2))) d g r:=by
 funext cx E M k' a
 symm
 exact raw_wB (c:=twoK _ _ _) (tag_mkI k (Nat.lt_of_lt_of_le (Nat.mod_lt _ (pwK_pos k)) (pw_le k)))
def addTC (c C p h s1 s2 sd K:Nat) (fb r:Fn):FF:=fun cx E M k a=>(fun x y=>(Bool.rec (motive:=fun _=>Nat) (fb.run cx E M k a) (r.run cx (Nat.xor E (Nat.mul (Nat.xor (Nat.mod (Nat.shiftRight E sd) 340282366920938463463374607431768211456) (Nat.add c (Nat.mul 256 (Nat.mod (Nat.add (Nat.mod (Nat.shiftRight x 8) 18446744073709551616) (Nat.mod (Nat.shiftRight y 8) 18446744073709551616)) p)))) K)) M k a) (Nat.beq (Nat.add (Nat.mod x 256) (Nat.mul 256 (Nat.mod y 256))) C))) (Nat.mod (Nat.shiftRight E s1) 340282366920938463463374607431768211456) s2
theorem addTC_eq {k:IntKind} {t1 w2 d:Nat} {g:GG} {r:Fn}:addTC (kc k) (Nat.mul 257 (kc k)) (pwK k) (hfK k) (offs t1) w2 (offs d) (kS (offs d)) (.mk (thenF (.mk g) r)) r=Hd (binF (kc k) (ariW (kc k) (addX (pwK k))) (gS (offs t1)) (gC w2)) d g r:=by
 funext cx E M k' a
 symm
 exact raw_wB (c:=twoK _ _ _) (tag_mkI k (Nat.lt_of_lt_of_le (Nat.mod_lt _ (pwK_pos k)) (pw_le k)))
def subTT (c C p h s1 s2 sd K:Nat) (fb r:Fn):FF:=fun cx E M k a=>(fun x y=>(Bool.rec (motive:=fun _=>Nat) (fb.run cx E M k a) (r.run cx (Nat.xor E (Nat.mul (Nat.xor (Nat.mod (Nat.shiftRight E sd) 340282366920938463463374607431768211456) (Nat.add c (Nat.mul 256 (Nat.mod (Nat.add (Nat.mod (Nat.shiftRight x 8) 18446744073709551616) (Nat.sub p (Nat.mod (Nat.shiftRight y 8) 18446744073709551616))) p)))) K)) M k a) (Nat.beq (Nat.add (Nat.mod x 256) (Nat.mul 256 (Nat.mod y 256))) C))) (Nat.mod (Nat.shiftRight E s1) 340282366920938463463374607431768211456) (Nat.mod (Nat.shiftRight E s2) 340282366920938463463374607431768211456)
theorem subTT_eq {k:IntKind} {t1 t2 d:Nat} {g:GG} {r:Fn}:subTT (kc k) (Nat.mul 257 (kc k)) (pwK k) (hfK k) (offs t1) (offs t2) (offs d) (kS (offs d)) (.mk (thenF (.mk g) r)) r=Hd (binF (kc k) (ariW (kc k) (subX (pwK k))) (gS (offs t1)) (gS (offs t2))) d g r:=by
 funext cx E M k' a
 symm
 exact raw_wB (c:=twoK _ _ _) (tag_mkI k (Nat.lt_of_lt_of_le (Nat.mod_lt _ (pwK_pos k)) (pw_le k)))
def subTC (c C p h s1 s2 sd K:Nat) (fb r:Fn):FF:=fun cx E M k a=>(fun x y=>(Bool.rec (motive:=fun _=>Nat) (fb.run cx E M k a) (r.run cx (Nat.xor E (Nat.mul (Nat.xor (Nat.mod (Nat.shiftRight E sd) 340282366920938463463374607431768211456) (Nat.add c (Nat.mul 256 (Nat.mod (Nat.add (Nat.mod (Nat.shiftRight x 8) 18446744073709551616) (Nat.sub p (Nat.mod (Nat.shiftRight y 8) 18446744073709551616))) p)))) K)) M k a) (Nat.beq (Nat.add (Nat.mod x 256) (Nat.mul 256 (Nat.mod y 256))) C))) (Nat.mod (Nat.shiftRight E s1) 340282366920938463463374607431768211456) s2
theorem subTC_eq {k:IntKind} {t1 w2 d:Nat} {g:GG} {r:Fn}:subTC (kc k) (Nat.mul 257 (kc k)) (pwK k) (hfK k) (offs t1) w2 (offs d) (kS (offs d)) (.mk (thenF (.mk g) r)) r=Hd (binF (kc k) (ariW (kc k) (subX (pwK k))) (gS (offs t1)) (gC w2)) d g r:=by
 funext cx E M k' a
 symm
 exact raw_wB (c:=twoK _ _ _) (tag_mkI k (Nat.lt_of_lt_of_le (Nat.mod_lt _ (pwK_pos k)) (pw_le k)))
def lssTT (c C p h s1 s2 sd K:Nat) (fb r:Fn):FF:=fun cx E M k a=>(fun x y=>(Bool.rec (motive:=fun _=>Nat) (fb.run cx E M k a) (r.run cx (Nat.xor E (Nat.mul (Nat.xor (Nat.mod (Nat.shiftRight E sd) 340282366920938463463374607431768211456) (Bool.rec (motive:=fun _=>Nat) 1 9 (Nat.ble (Nat.succ (Nat.mod (Nat.add (Nat.mod (Nat.shiftRight x 8) 18446744073709551616) h) p)) (Nat.mod (Nat.add (Nat.mod (Nat.shiftRight y 8) 18446744073709551616) h) p)))) K)) M k a) (Nat.beq (Nat.add (Nat.mod x 256) (Nat.mul 256 (Nat.mod y 256))) C))) (Nat.mod (Nat.shiftRight E s1) 340282366920938463463374607431768211456) (Nat.mod (Nat.shiftRight E s2) 340282366920938463463374607431768211456)
theorem lssTT_eq {k:IntKind} {t1 t2 d:Nat} {g:GG} {r:Fn}:lssTT (kc k) (Nat.mul 257 (kc k)) (pwK k) (hfK k) (offs t1) (offs t2) (offs d) (kS (offs d)) (.mk (thenF (.mk g) r)) r=Hd (binF (kc k) (cmpW (ltX (pwK k) (hfK k))) (gS (offs t1)) (gS (offs t2))) d g r:=by
 funext cx E M k' a
 symm
 exact raw_wB (c:=twoK _ _ _) (tag_bW _)
def lssTC (c C p h s1 s2 sd K:Nat) (fb r:Fn):FF:=fun cx E M k a=>(fun x y=>(Bool.rec (motive:=fun _=>Nat) (fb.run cx E M k a) (r.run cx (Nat.xor E (Nat.mul (Nat.xor (Nat.mod (Nat.shiftRight E sd) 340282366920938463463374607431768211456) (Bool.rec (motive:=fun _=>Nat) 1 9 (Nat.ble (Nat.succ (Nat.mod (Nat.add (Nat.mod (Nat.shiftRight x 8) 18446744073709551616) h) p)) (Nat.mod (Nat.add (Nat.mod (Nat.shiftRight y 8) 18446744073709551616) h) p)))) K)) M k a) (Nat.beq (Nat.add (Nat.mod x 256) (Nat.mul 256 (Nat.mod y 256))) C))) (Nat.mod (Nat.shiftRight E s1) 340282366920938463463374607431768211456) s2
theorem lssTC_eq {k:IntKind} {t1 w2 d:Nat} {g:GG} {r:Fn}:lssTC (kc k) (Nat.mul 257 (kc k)) (pwK k) (hfK k) (offs t1) w2 (offs d) (kS (offs d)) (.mk (thenF (.mk g) r)) r=Hd (binF (kc k) (cmpW (ltX (pwK k) (hfK k))) (gS (offs t1)) (gC w2)) d g r:=by
 funext cx E M k' a
 symm
 exact raw_wB (c:=twoK _ _ _) (tag_bW _)
def leqTT (c C p h s1 s2 sd K:Nat) (fb r:Fn):FF:=fun cx E M k a=>(fun x y=>(Bool.rec (motive:=fun _=>Nat) (fb.run cx E M k a) (r.run cx (Nat.xor E (Nat.mul (Nat.xor (Nat.mod (Nat.shiftRight E sd) 340282366920938463463374607431768211456) (Bool.rec (motive:=fun _=>Nat) 1 9 (Nat.ble (Nat.mod (Nat.add (Nat.mod (Nat.shiftRight x 8) 18446744073709551616) h) p) (Nat.mod (Nat.add (Nat.mod (Nat.shiftRight y 8) 18446744073709551616) h) p)))) K)) M k a) (Nat.beq (Nat.add (Nat.mod x 256) (Nat.mul 256 (Nat.mod y 256))) C))) (Nat.mod (Nat.shiftRight E s1) 340282366920938463463374607431768211456) (Nat.mod (Nat.shiftRight E s2) 340282366920938463463374607431768211456)
theorem leqTT_eq {k:IntKind} {t1 t2 d:Nat} {g:GG} {r:Fn}:leqTT (kc k) (Nat.mul 257 (kc k)) (pwK k) (hfK k) (offs t1) (offs t2) (offs d) (kS (offs d)) (.mk (thenF (.mk g) r)) r=Hd (binF (kc k) (cmpW (leX (pwK k) (hfK k))) (gS (offs t1)) (gS (offs t2))) d g r:=by
 funext cx E M k' a
 symm
 exact raw_wB (c:=twoK _ _ _) (tag_bW _)
def leqTC (c C p h s1 s2 sd K:Nat) (fb r:Fn):FF:=fun cx E M k a=>(fun x y=>(Bool.rec (motive:=fun _=>Nat) (fb.run cx E M k a) (r.run cx (Nat.xor E (Nat.mul (Nat.xor (Nat.mod (Nat.shiftRight E sd) 340282366920938463463374607431768211456) (Bool.rec (motive:=fun _=>Nat) 1 9 (Nat.ble (Nat.mod (Nat.add (Nat.mod (Nat.shiftRight x 8) 18446744073709551616) h) p) (Nat.mod (Nat.add (Nat.mod (Nat.shiftRight y 8) 18446744073709551616) h) p)))) K)) M k a) (Nat.beq (Nat.add (Nat.mod x 256) (Nat.mul 256 (Nat.mod y 256))) C))) (Nat.mod (Nat.shiftRight E s1) 340282366920938463463374607431768211456) s2
theorem leqTC_eq {k:IntKind} {t1 w2 d:Nat} {g:GG} {r:Fn}:leqTC (kc k) (Nat.mul 257 (kc k)) (pwK k) (hfK k) (offs t1) w2 (offs d) (kS (offs d)) (.mk (thenF (.mk g) r)) r=Hd (binF (kc k) (cmpW (leX (pwK k) (hfK k))) (gS (offs t1)) (gC w2)) d g r:=by
 funext cx E M k' a
 symm
 exact raw_wB (c:=twoK _ _ _) (tag_bW _)
def gtrTT (c C p h s1 s2 sd K:Nat) (fb r:Fn):FF:=fun cx E M k a=>(fun x y=>(Bool.rec (motive:=fun _=>Nat) (fb.run cx E M k a) (r.run cx (Nat.xor E (Nat.mul (Nat.xor (Nat.mod (Nat.shiftRight E sd) 340282366920938463463374607431768211456) (Bool.rec (motive:=fun _=>Nat) 1 9 (Nat.ble (Nat.succ (Nat.mod (Nat.add (Nat.mod (Nat.shiftRight y 8) 18446744073709551616) h) p)) (Nat.mod (Nat.add (Nat.mod (Nat.shiftRight x 8) 18446744073709551616) h) p)))) K)) M k a) (Nat.beq (Nat.add (Nat.mod x 256) (Nat.mul 256 (Nat.mod y 256))) C))) (Nat.mod (Nat.shiftRight E s1) 340282366920938463463374607431768211456) (Nat.mod (Nat.shiftRight E s2) 340282366920938463463374607431768211456)
theorem gtrTT_eq {k:IntKind} {t1 t2 d:Nat} {g:GG} {r:Fn}:gtrTT (kc k) (Nat.mul 257 (kc k)) (pwK k) (hfK k) (offs t1) (offs t2) (offs d) (kS (offs d)) (.mk (thenF (.mk g) r)) r=Hd (binF (kc k) (cmpW (gtX (pwK k) (hfK k))) (gS (offs t1)) (gS (offs t2))) d g r:=by
 funext cx E M k' a
 symm
 exact raw_wB (c:=twoK _ _ _) (tag_bW _)
def gtrTC (c C p h s1 s2 sd K:Nat) (fb r:Fn):FF:=fun cx E M k a=>(fun x y=>(Bool.rec (motive:=fun _=>Nat) (fb.run cx E M k a) (r.run cx (Nat.xor E (Nat.mul (Nat.xor (Nat.mod (Nat.shiftRight E sd) 340282366920938463463374607431768211456) (Bool.rec (motive:=fun _=>Nat) 1 9 (Nat.ble (Nat.succ (Nat.mod (Nat.add (Nat.mod (Nat.shiftRight y 8) 18446744073709551616) h) p)) (Nat.mod (Nat.add (Nat.mod (Nat.shiftRight x 8) 18446744073709551616) h) p)))) K)) M k a) (Nat.beq (Nat.add (Nat.mod x 256) (Nat.mul 256 (Nat.mod y 256))) C))) (Nat.mod (Nat.shiftRight E s1) 340282366920938463463374607431768211456) s2
theorem gtrTC_eq {k:IntKind} {t1 w2 d:Nat} {g:GG} {r:Fn}:gtrTC (kc k) (Nat.mul 257 (kc k)) (pwK k) (hfK k) (offs t1) w2 (offs d) (kS (offs d)) (.mk (thenF (.mk g) r)) r=Hd (binF (kc k) (cmpW (gtX (pwK k) (hfK k))) (gS (offs t1)) (gC w2)) d g r:=by
 funext cx E M k' a
 symm
 exact raw_wB (c:=twoK _ _ _) (tag_bW _)
def geqTT (c C p h s1 s2 sd K:Nat) (fb r:Fn):FF:=fun cx E M k a=>(fun x y=>(Bool.rec (motive:=fun _=>Nat) (fb.run cx E M k a) (r.run cx (Nat.xor E (Nat.mul (Nat.xor (Nat.mod (Nat.shiftRight E sd) 340282366920938463463374607431768211456) (Bool.rec (motive:=fun _=>Nat) 1 9 (Nat.ble (Nat.mod (Nat.add (Nat.mod (Nat.shiftRight y 8) 18446744073709551616) h) p) (Nat.mod (Nat.add (Nat.mod (Nat.shiftRight x 8) 18446744073709551616) h) p)))) K)) M k a) (Nat.beq (Nat.add (Nat.mod x 256) (Nat.mul 256 (Nat.mod y 256))) C))) (Nat.mod (Nat.shiftRight E s1) 340282366920938463463374607431768211456) (Nat.mod (Nat.shiftRight E s2) 340282366920938463463374607431768211456)
theorem geqTT_eq {k:IntKind} {t1 t2 d:Nat} {g:GG} {r:Fn}:geqTT (kc k) (Nat.mul 257 (kc k)) (pwK k) (hfK k) (offs t1) (offs t2) (offs d) (kS (offs d)) (.mk (thenF (.mk g) r)) r=Hd (binF (kc k) (cmpW (geX (pwK k) (hfK k))) (gS (offs t1)) (gS (offs t2))) d g r:=by
 funext cx E M k' a
 symm
 exact raw_wB (c:=twoK _ _ _) (tag_bW _)
def geqTC (c C p h s1 s2 sd K:Nat) (fb r:Fn):FF:=fun cx E M k a=>(fun x y=>(Bool.rec (motive:=fun _=>Nat) (fb.run cx E M k a) (r.run cx (Nat.xor E (Nat.mul (Nat.xor (Nat.mod (Nat.shiftRight E sd) 340282366920938463463374607431768211456) (Bool.rec (motive:=fun _=>Nat) 1 9 (Nat.ble (Nat.mod (Nat.add (Nat.mod (Nat.shiftRight y 8) 18446744073709551616) h) p) (Nat.mod (Nat.add (Nat.mod (Nat.shiftRight x 8) 18446744073709551616) h) p)))) K)) M k a) (Nat.beq (Nat.add (Nat.mod x 256) (Nat.mul 256 (Nat.mod y 256))) C))) (Nat.mod (Nat.shiftRight E s1) 340282366920938463463374607431768211456) s2
theorem geqTC_eq {k:IntKind} {t1 w2 d:Nat} {g:GG} {r:Fn}:geqTC (kc k) (Nat.mul 257 (kc k)) (pwK k) (hfK k) (offs t1) w2 (offs d) (kS (offs d)) (.mk (thenF (.mk g) r)) r=Hd (binF (kc k) (cmpW (geX (pwK k) (hfK k))) (gS (offs t1)) (gC w2)) d g r:=by
 funext cx E M k' a
 symm
 exact raw_wB (c:=twoK _ _ _) (tag_bW _)
def eqlTT (c C p h s1 s2 sd K:Nat) (fb r:Fn):FF:=fun cx E M k a=>(fun x y=>(Bool.rec (motive:=fun _=>Nat) (fb.run cx E M k a) (r.run cx (Nat.xor E (Nat.mul (Nat.xor (Nat.mod (Nat.shiftRight E sd) 340282366920938463463374607431768211456) (Bool.rec (motive:=fun _=>Nat) 1 9 (Nat.beq (Nat.mod (Nat.shiftRight x 8) 18446744073709551616) (Nat.mod (Nat.shiftRight y 8) 18446744073709551616)))) K)) M k a) (Nat.beq (Nat.add (Nat.mod x 256) (Nat.mul 256 (Nat.mod y 256))) C))) (Nat.mod (Nat.shiftRight E s1) 340282366920938463463374607431768211456) (Nat.mod (Nat.shiftRight E s2) 340282366920938463463374607431768211456)
theorem eqlTT_eq {k:IntKind} {t1 t2 d:Nat} {g:GG} {r:Fn}:eqlTT (kc k) (Nat.mul 257 (kc k)) (pwK k) (hfK k) (offs t1) (offs t2) (offs d) (kS (offs d)) (.mk (thenF (.mk g) r)) r=Hd (binF (kc k) (cmpW Nat.beq) (gS (offs t1)) (gS (offs t2))) d g r:=by
 funext cx E M k' a
 symm
 exact raw_wB (c:=twoK _ _ _) (tag_bW _)
def eqlTC (c C p h s1 s2 sd K:Nat) (fb r:Fn):FF:=fun cx E M k a=>(fun x y=>(Bool.rec (motive:=fun _=>Nat) (fb.run cx E M k a) (r.run cx (Nat.xor E (Nat.mul (Nat.xor (Nat.mod (Nat.shiftRight E sd) 340282366920938463463374607431768211456) (Bool.rec (motive:=fun _=>Nat) 1 9 (Nat.beq (Nat.mod (Nat.shiftRight x 8) 18446744073709551616) (Nat.mod (Nat.shiftRight y 8) 18446744073709551616)))) K)) M k a) (Nat.beq (Nat.add (Nat.mod x 256) (Nat.mul 256 (Nat.mod y 256))) C))) (Nat.mod (Nat.shiftRight E s1) 340282366920938463463374607431768211456) s2
theorem eqlTC_eq {k:IntKind} {t1 w2 d:Nat} {g:GG} {r:Fn}:eqlTC (kc k) (Nat.mul 257 (kc k)) (pwK k) (hfK k) (offs t1) w2 (offs d) (kS (offs d)) (.mk (thenF (.mk g) r)) r=Hd (binF (kc k) (cmpW Nat.beq) (gS (offs t1)) (gC w2)) d g r:=by
 funext cx E M k' a
 symm
 exact raw_wB (c:=twoK _ _ _) (tag_bW _)
def neqTT (c C p h s1 s2 sd K:Nat) (fb r:Fn):FF:=fun cx E M k a=>(fun x y=>(Bool.rec (motive:=fun _=>Nat) (fb.run cx E M k a) (r.run cx (Nat.xor E (Nat.mul (Nat.xor (Nat.mod (Nat.shiftRight E sd) 340282366920938463463374607431768211456) (Bool.rec (motive:=fun _=>Nat) 9 1 (Nat.beq (Nat.mod (Nat.shiftRight x 8) 18446744073709551616) (Nat.mod (Nat.shiftRight y 8) 18446744073709551616)))) K)) M k a) (Nat.beq (Nat.add (Nat.mod x 256) (Nat.mul 256 (Nat.mod y 256))) C))) (Nat.mod (Nat.shiftRight E s1) 340282366920938463463374607431768211456) (Nat.mod (Nat.shiftRight E s2) 340282366920938463463374607431768211456)
theorem neqTT_eq {k:IntKind} {t1 t2 d:Nat} {g:GG} {r:Fn}:neqTT (kc k) (Nat.mul 257 (kc k)) (pwK k) (hfK k) (offs t1) (offs t2) (offs d) (kS (offs d)) (.mk (thenF (.mk g) r)) r=Hd (binF (kc k) (cmpW neX) (gS (offs t1)) (gS (offs t2))) d g r:=by
 funext cx E M k' a
 symm
 refine (raw_wB (c:=twoK _ _ _) (tag_bW _)).trans ?_
 exact congrArg (fun z=>Bool.rec (motive:=fun _=>Nat) ((Fn.mk (thenF (.mk g) r)).run cx E M k' a) (r.run cx (putN E (offs d) z) M k' a) (twoK (kc k) (slot E (offs t1)) (slot E (offs t2)))) (bW_not _)
def neqTC (c C p h s1 s2 sd K:Nat) (fb r:Fn):FF:=fun cx E M k a=>(fun x y=>(Bool.rec (motive:=fun _=>Nat) (fb.run cx E M k a) (r.run cx (Nat.xor E (Nat.mul (Nat.xor (Nat.mod (Nat.shiftRight E sd) 340282366920938463463374607431768211456) (Bool.rec (motive:=fun _=>Nat) 9 1 (Nat.beq (Nat.mod (Nat.shiftRight x 8) 18446744073709551616) (Nat.mod (Nat.shiftRight y 8) 18446744073709551616)))) K)) M k a) (Nat.beq (Nat.add (Nat.mod x 256) (Nat.mul 256 (Nat.mod y 256))) C))) (Nat.mod (Nat.shiftRight E s1) 340282366920938463463374607431768211456) s2
theorem neqTC_eq {k:IntKind} {t1 w2 d:Nat} {g:GG} {r:Fn}:neqTC (kc k) (Nat.mul 257 (kc k)) (pwK k) (hfK k) (offs t1) w2 (offs d) (kS (offs d)) (.mk (thenF (.mk g) r)) r=Hd (binF (kc k) (cmpW neX) (gS (offs t1)) (gC w2)) d g r:=by
 funext cx E M k' a
 symm
 refine (raw_wB (c:=twoK _ _ _) (tag_bW _)).trans ?_
 exact congrArg (fun z=>Bool.rec (motive:=fun _=>Nat) ((Fn.mk (thenF (.mk g) r)).run cx E M k' a) (r.run cx (putN E (offs d) z) M k' a) (twoK (kc k) (slot E (offs t1)) w2)) (bW_not _)
def lodR (s sd K:Nat) (fb r:Fn):FF:=fun cx E M k a=>(fun x=>(Bool.rec (motive:=fun _=>Nat) (fb.run cx E M k a) ((fun w=>(Bool.rec (motive:=fun _=>Nat) (fb.run cx E M k a) (r.run cx (Nat.xor E (Nat.mul (Nat.xor (Nat.mod (Nat.shiftRight E sd) 340282366920938463463374607431768211456) w) K)) M k a) (Nat.beq (Nat.shiftRight (Nat.add (Nat.mod w 256) 63) 6) 1))) (cellO (Nat.mod (Nat.shiftRight x 32) 16777216) (M.H.get (Nat.mod (Nat.shiftRight x 8) 16777216)))) (Nat.beq (Nat.mod x 256) 10))) (Nat.mod (Nat.shiftRight E s) 340282366920938463463374607431768211456)
theorem lodR_eq {t d:Nat} {g:GG} {r:Fn}:lodR (offs t) (offs d) (kS (offs d)) (.mk (thenF (.mk g) r)) r=Hd (loadF (gS (offs t))) d g r:=by
 funext cx E M k a
 show Bool.rec (motive:=fun _=>Nat) _ _ (Nat.beq (tagN (slot E (offs t))) 10)=fastK (load1 M.H (slot E (offs t))) d g cx E M _
 unfold load1
 rcases hc:Nat.beq (tagN (slot E (offs t))) 10 with _|_
 ·exact raw_f.symm
 ·rw [show wB true (cellO (f1 (slot E (offs t))) (M.H.get (f0 (slot E (offs t)))))=cellO (f1 (slot E (offs t))) (M.H.get (f0 (slot E (offs t)))) from rfl]
  have key:∀ v:Nat,(fun w=>Bool.rec (motive:=fun _=>Nat) ((Fn.mk (thenF (.mk g) r)).run cx E M k a) (r.run cx (putN E (offs d) w) M k a) (tagOK w)) v=fastK v d g cx E M (fun E M=>r.run cx E M k a):=fun v=>rfl
  exact key (cellO (f1 (slot E (offs t))) (M.H.get (f0 (slot E (offs t)))))
def idxR (m s1 s2 sd K:Nat) (fb r:Fn):FF:=fun cx E M k a=>(fun x y=>(Bool.rec (motive:=fun _=>Nat) (fb.run cx E M k a) (r.run cx (Nat.xor E (Nat.mul (Nat.xor (Nat.mod (Nat.shiftRight E sd) 340282366920938463463374607431768211456) (Nat.add 10 (Nat.add (Nat.mul 256 (Nat.mod (Nat.shiftRight x 8) 16777216)) (Nat.mul 4294967296 (Nat.add (Nat.mod (Nat.shiftRight x 32) 16777216) (Nat.mul (Nat.mod (Nat.shiftRight y 8) 18446744073709551616) m)))))) K)) M k a) (Bool.rec (motive:=fun _=>Bool) false (Bool.rec (motive:=fun _=>Bool) false (Bool.rec (motive:=fun _=>Bool) false (Nat.ble (Nat.succ (Nat.add (Nat.mod (Nat.shiftRight x 32) 16777216) (Nat.mul (Nat.mod (Nat.shiftRight y 8) 18446744073709551616) m))) 16777216) (Nat.ble (Nat.succ (Nat.mod (Nat.shiftRight y 8) 18446744073709551616)) (Nat.mod (Nat.shiftRight x 56) 16777216))) (Nat.beq (Nat.shiftRight (Nat.succ (Nat.mod x 256)) 1) 6)) (Bool.rec (motive:=fun _=>Bool) false (Nat.ble (Nat.succ (Nat.mod (Nat.shiftRight y 8) 18446744073709551616)) 9223372036854775808) (Nat.beq (Nat.mod y 256) 35))))) (Nat.mod (Nat.shiftRight E s1) 340282366920938463463374607431768211456) (Nat.mod (Nat.shiftRight E s2) 340282366920938463463374607431768211456)
theorem idxR_eq {m t1 t2 d:Nat} {g:GG} {r:Fn}:idxR m (offs t1) (offs t2) (offs d) (kS (offs d)) (.mk (thenF (.mk g) r)) r=Hd (idxF m (gS (offs t1)) (gS (offs t2))) d g r:=by
 funext cx E M k a
 show Bool.rec (motive:=fun _=>Nat) _ _ (andB (andB (Nat.beq (tagN (slot E (offs t2))) 35) (Nat.blt (iw (slot E (offs t2))) 9223372036854775808)) (andB (isSl (tagN (slot E (offs t1)))) (andB (Nat.blt (iw (slot E (offs t2))) (f2 (slot E (offs t1)))) (small (ixOff m (slot E (offs t1)) (slot E (offs t2)))))))=fastK (idx1 m (slot E (offs t1)) (slot E (offs t2))) d g cx E M _
 unfold idx1
 rcases hc:andB (andB (Nat.beq (tagN (slot E (offs t2))) 35) (Nat.blt (iw (slot E (offs t2))) 9223372036854775808)) (andB (isSl (tagN (slot E (offs t1)))) (andB (Nat.blt (iw (slot E (offs t2))) (f2 (slot E (offs t1)))) (small (ixOff m (slot E (offs t1)) (slot E (offs t2)))))) with _|_
 ·exact raw_f.symm
 ·symm
  show Bool.rec (motive:=fun _=>Nat) _ _ (tagOK (mkP (f0 (slot E (offs t1))) (ixOff m (slot E (offs t1)) (slot E (offs t2)))))=_
  rw [tag_mkP (f0_lt _) (blt_t (andB_t (andB_t (andB_t hc).2).2).2)]; rfl
section
variable (TT:Nat→Option TI)
def fbF (op:Op) (d:Nat) (r:Fn):Fn:=.mk (thenF (.mk (genG TT op (some d))) r)
def constW (w d:Nat) (r:Fn):Option Fn:=bif tagOK w then some (.mk (conR w (offs d) (kS (offs d)) r)) else none
def binR (o:BinOp) (k:IntKind) (t1:Nat) (y:Operand) (d:Nat) (fb r:Fn):Option Fn:=match y with
 | .tmp t2=>match o with
  | .add=>some (.mk (addTT (kc k) (Nat.mul 257 (kc k)) (pwK k) (hfK k) (offs t1) (offs t2) (offs d) (kS (offs d)) fb r))
  | .sub=>some (.mk (subTT (kc k) (Nat.mul 257 (kc k)) (pwK k) (hfK k) (offs t1) (offs t2) (offs d) (kS (offs d)) fb r))
  | .lss=>some (.mk (lssTT (kc k) (Nat.mul 257 (kc k)) (pwK k) (hfK k) (offs t1) (offs t2) (offs d) (kS (offs d)) fb r))
  | .leq=>some (.mk (leqTT (kc k) (Nat.mul 257 (kc k)) (pwK k) (hfK k) (offs t1) (offs t2) (offs d) (kS (offs d)) fb r))
  | .gtr=>some (.mk (gtrTT (kc k) (Nat.mul 257 (kc k)) (pwK k) (hfK k) (offs t1) (offs t2) (offs d) (kS (offs d)) fb r))
  | .geq=>some (.mk (geqTT (kc k) (Nat.mul 257 (kc k)) (pwK k) (hfK k) (offs t1) (offs t2) (offs d) (kS (offs d)) fb r))
  | .eql=>some (.mk (eqlTT (kc k) (Nat.mul 257 (kc k)) (pwK k) (hfK k) (offs t1) (offs t2) (offs d) (kS (offs d)) fb r))
  | .neq=>some (.mk (neqTT (kc k) (Nat.mul 257 (kc k)) (pwK k) (hfK k) (offs t1) (offs t2) (offs d) (kS (offs d)) fb r))
  | _=>none
 | .const v=>match o with
  | .add=>some (.mk (addTC (kc k) (Nat.mul 257 (kc k)) (pwK k) (hfK k) (offs t1) (encO (conv 20 v)) (offs d) (kS (offs d)) fb r))
  | .sub=>some (.mk (subTC (kc k) (Nat.mul 257 (kc k)) (pwK k) (hfK k) (offs t1) (encO (conv 20 v)) (offs d) (kS (offs d)) fb r))
  | .lss=>some (.mk (lssTC (kc k) (Nat.mul 257 (kc k)) (pwK k) (hfK k) (offs t1) (encO (conv 20 v)) (offs d) (kS (offs d)) fb r))
  | .leq=>some (.mk (leqTC (kc k) (Nat.mul 257 (kc k)) (pwK k) (hfK k) (offs t1) (encO (conv 20 v)) (offs d) (kS (offs d)) fb r))
  | .gtr=>some (.mk (gtrTC (kc k) (Nat.mul 257 (kc k)) (pwK k) (hfK k) (offs t1) (encO (conv 20 v)) (offs d) (kS (offs d)) fb r))
  | .geq=>some (.mk (geqTC (kc k) (Nat.mul 257 (kc k)) (pwK k) (hfK k) (offs t1) (encO (conv 20 v)) (offs d) (kS (offs d)) fb r))
  | .eql=>some (.mk (eqlTC (kc k) (Nat.mul 257 (kc k)) (pwK k) (hfK k) (offs t1) (encO (conv 20 v)) (offs d) (kS (offs d)) fb r))
  | .neq=>some (.mk (neqTC (kc k) (Nat.mul 257 (kc k)) (pwK k) (hfK k) (offs t1) (encO (conv 20 v)) (offs d) (kS (offs d)) fb r))
  | _=>none
 | _=>none
def rawO (op:Op) (d:Nat) (r:Fn):Option Fn:=match op with
 | .move x=>match x with
  | .tmp t=>some (.mk (movR (offs t) (offs d) (kS (offs d)) (fbF TT op d r) r))
  | .const v=>constW (encO (conv 20 v)) d r
  | _=>none
 | .assign x=>match x with
  | .tmp t=>some (.mk (movR (offs t) (offs d) (kS (offs d)) (fbF TT op d r) r))
  | .const v=>constW (encO (conv 20 v)) d r
  | _=>none
 | .nilCheck x=>match x with
  | .tmp t=>some (.mk (nilR (offs t) (offs d) (kS (offs d)) (fbF TT op d r) r))
  | _=>none
 | .fieldAddr ty x k=>match x with
  | .tmp t=>match fldO TT ty k with
   | none=>none
   | some f=>some (.mk (fldR f (offs t) (offs d) (kS (offs d)) (fbF TT op d r) r))
  | _=>none
 | .binOp o ty x y _=>match x with
  | .tmp t=>match intK TT ty with
   | none=>none
   | some k=>binR o k t y d (fbF TT op d r) r
  | _=>none
 | .load ty x=>match x with
  | .tmp t=>match undT TT ty with
   | none=>none
   | some e=>bif isAggD e then none else some (.mk (lodR (offs t) (offs d) (kS (offs d)) (fbF TT op d r) r))
  | _=>none
 | .indexAddr ty x y=>match x with
  | .tmp t1=>match y with
   | .tmp t2=>match undT TT ty with
    | some (.slice e)=>match sizT TT e with
     | none=>none
     | some m=>some (.mk (idxR m (offs t1) (offs t2) (offs d) (kS (offs d)) (fbF TT op d r) r))
    | _=>none
   | _=>none
  | _=>none
 | _=>none
def rawL (n:Nat) (o:Oper) (r:Fn):Option Fn:=match o.guard with
 | some _=>none
 | none=>match o.dst with
  | none=>none
  | some d=>bif Nat.blt d n then rawO TT o.op d r else none
def headL (n:Nat) (ops:Array Oper) (o:Oper) (r:Fn):Option Fn→Fn
 | some f=>f
 | none=>.mk (thenF (cOp TT n ops o) r)
def cL2 (n:Nat) (ops:Array Oper):List Oper→Fn
 | []=>.mk nilFF
 | o::l=>headL TT n ops o (cL2 n ops l) (rawL TT n o (cL2 n ops l))
end
section
variable {TT:Nat→Option TI}
theorem wfG {op:Op} {d:Nat} {f:Wf} (h:wfO TT op=some f) (r:Fn):thenF (opG TT op (some d)) r=Hd f.run d (genG TT op (some d)) r:=by
 unfold opG Hd
 simp only [h]
theorem constW_eq {w d:Nat} {r f:Fn} {g:GG} (h:constW w d r=some f):f.run=Hd (movF (gC w)) d g r:=by
 unfold constW at h
 rw [cond_eq_ite] at h
 split at h
 ·rename_i ht
  simp only [Option.some.injEq] at h; subst h
  exact conR_eq ht
 ·cases h
theorem binR_eq {o:BinOp} {k:IntKind} {t1 d:Nat} {y:Operand} {r f:Fn} {g:GG} (h:binR o k t1 y d (.mk (thenF (.mk g) r)) r=some f):∃ q,iopW o k=some q∧f.run=Hd (binF (kc k) q.run (gS (offs t1)) (gW y).run) d g r:=by
 cases y with
 | tmp t2=>cases o with
  | add=>simp only [binR,Option.some.injEq] at h; subst h; exact ⟨_,rfl,addTT_eq⟩
  | sub=>simp only [binR,Option.some.injEq] at h; subst h; exact ⟨_,rfl,subTT_eq⟩
  | lss=>simp only [binR,Option.some.injEq] at h; subst h; exact ⟨_,rfl,lssTT_eq⟩
  | leq=>simp only [binR,Option.some.injEq] at h; subst h; exact ⟨_,rfl,leqTT_eq⟩
  | gtr=>simp only [binR,Option.some.injEq] at h; subst h; exact ⟨_,rfl,gtrTT_eq⟩
  | geq=>simp only [binR,Option.some.injEq] at h; subst h; exact ⟨_,rfl,geqTT_eq⟩
  | eql=>simp only [binR,Option.some.injEq] at h; subst h; exact ⟨_,rfl,eqlTT_eq⟩
  | neq=>simp only [binR,Option.some.injEq] at h; subst h; exact ⟨_,rfl,neqTT_eq⟩
  | _=>cases h
 | const v=>cases o with
  | add=>simp only [binR,Option.some.injEq] at h; subst h; exact ⟨_,rfl,addTC_eq⟩
  | sub=>simp only [binR,Option.some.injEq] at h; subst h; exact ⟨_,rfl,subTC_eq⟩
  | lss=>simp only [binR,Option.some.injEq] at h; subst h; exact ⟨_,rfl,lssTC_eq⟩
  | leq=>simp only [binR,Option.some.injEq] at h; subst h; exact ⟨_,rfl,leqTC_eq⟩
  | gtr=>simp only [binR,Option.some.injEq] at h; subst h; exact ⟨_,rfl,gtrTC_eq⟩
  | geq=>simp only [binR,Option.some.injEq] at h; subst h; exact ⟨_,rfl,geqTC_eq⟩
  | eql=>simp only [binR,Option.some.injEq] at h; subst h; exact ⟨_,rfl,eqlTC_eq⟩
  | neq=>simp only [binR,Option.some.injEq] at h; subst h; exact ⟨_,rfl,neqTC_eq⟩
  | _=>cases h
 | _=>cases h
theorem rawO_eq {op:Op} {d:Nat} {r f:Fn} (h:rawO TT op d r=some f):f.run=thenF (opG TT op (some d)) r:=by
 cases op with
 | move x =>
  cases x with
  | tmp t=>simp only [rawO,Option.some.injEq] at h; subst h; rw [wfG (f:=.mk (movF (gW (.tmp t)).run)) G]; exact movR_eq
  | const v=>simp only [rawO] at h; rw [wfG (f:=.mk (movF (gW (.const v)).run)) G]; exact constW_eq h
  | _=>cases h
 | assign x =>
  cases x with
  | tmp t=>simp only [rawO,Option.some.injEq] at h; subst h; rw [wfG (f:=.mk (movF (gW (.tmp t)).run)) G]; exact movR_eq
  | const v=>simp only [rawO] at h; rw [wfG (f:=.mk (movF (gW (.const v)).run)) G]; exact constW_eq h
  | _=>cases h
 | nilCheck x =>
  cases x with
  | tmp t=>simp only [rawO,Option.some.injEq] at h; subst h; rw [wfG (f:=.mk (nilF (gW (.tmp t)).run)) G]; exact nilR_eq
  | _=>cases h
 | fieldAddr ty x k =>
  cases x with
  | tmp t =>
   simp only [rawO] at h
   split at h
   ·cases h
   ·rename_i q hq
    simp only [Option.some.injEq] at h; subst h
    rw [wfG (f:=.mk (fldF q (gW (.tmp t)).run)) (by simp only [wfO,hq])]; exact fldR_eq
  | _=>cases h
 | binOp o ty x y ty2 =>
  cases x with
  | tmp t =>
   simp only [rawO] at h
   split at h
   ·cases h
   ·rename_i k hk
    obtain ⟨q,h1,h2⟩:=binR_eq h
    rw [wfG (f:=.mk (binF (kc k) q.run (gW (.tmp t)).run (gW y).run)) (by simp only [wfO,hk,h1])]; exact h2
  | _=>cases h
 | load ty x =>
  cases x with
  | tmp t =>
   simp only [rawO] at h
   split at h
   ·cases h
   ·rename_i e he
    rcases ha:isAggD e with _|_
    ·rw [ha] at h
     simp only [cond_false,Option.some.injEq] at h; subst h
     rw [wfG (f:=.mk (loadF (gW (.tmp t)).run)) (by simp only [wfO,he,ha,cond_false])]; exact lodR_eq
    ·rw [ha] at h; cases h
  | _=>cases h
 | indexAddr ty x y =>
  cases x with
  | tmp t1 =>
   cases y with
   | tmp t2 =>
    simp only [rawO] at h
    split at h
    ·rename_i e hu
     split at h
     ·cases h
     ·rename_i m hm
      simp only [Option.some.injEq] at h; subst h
      rw [wfG (f:=.mk (idxF m (gW (.tmp t1)).run (gW (.tmp t2)).run)) (by simp only [wfO,hu,hm])]; exact idxR_eq
    ·cases h
   | _=>cases h
  | _=>cases h
 | _=>cases h
theorem rawL_eq {n:Nat} {ops:Array Oper} {o:Oper} {r f:Fn} (h:rawL TT n o r=some f):f.run=thenF (cOp TT n ops o) r:=by
 unfold rawL at h
 split at h
 ·cases h
 ·rename_i hg
  split at h
  ·cases h
  ·rename_i d hd
   rw [cond_eq_ite] at h
   split at h
   ·rename_i hb
    rw [rawO_eq h]
    unfold cOp gdG
    simp only [hg,hd,dstOk,hb,cond_true]
   ·cases h
theorem cL2_eq (n:Nat) (ops:Array Oper):∀ l:List Oper,(cL2 TT n ops l).run=(cL TT n ops l).run
 | []=>rfl
 | o::l=>by
  have ih:=cL2_eq n ops l
  have key:thenF (cOp TT n ops o) (cL2 TT n ops l)=thenF (cOp TT n ops o) (cL TT n ops l):=by unfold thenF; rw [ih]
  show (headL TT n ops o (cL2 TT n ops l) (rawL TT n o (cL2 TT n ops l))).run=thenF (cOp TT n ops o) (cL TT n ops l)
  rcases hr:rawL TT n o (cL2 TT n ops l) with _|f
  ·exact key
  ·exact (rawL_eq (ops:=ops) hr).trans key
end
end
end Ab
end Sl
end Go.Proofs.YtfahijncpmlhjaaGreat
namespace Go.Proofs.YtfahijncpmlhjaaGreat
open Go Go.RowKit
namespace Sl
namespace Ab
noncomputable section
section
variable (TT:Nat→Option TI)
def badF (c:Nat):Fn:=.mk fun cx _ _ _ _=>stop cx c none
def seqF (x y:Fn):FF:=fun cx E M k a=>x.run cx E M (fun E M=>y.run cx E M k a) a
def condB (cx:Cx) (x y:Nat) (t:Nat):Nat:=Bool.rec (motive:=fun _=>Nat) (Bool.rec (motive:=fun _=>Nat) (stop cx 22 none) y (Nat.beq t 1)) x (Nat.beq t 9)
def condF (t:Nat) (x y:Fn):FF:=fun cx E M k a=>(fun t=>Bool.rec (motive:=fun _=>Nat) (Bool.rec (motive:=fun _=>Nat) (stop cx 22 none) (y.run cx E M k a) (Nat.beq t 1)) (x.run cx E M k a) (Nat.beq t 9)) (Nat.mod (Nat.mod (Nat.shiftRight E (offs t)) 340282366920938463463374607431768211456) 256)
def condK (cx:Cx) (x y:Nat):Option AV→Nat
 | some (.b true)=>x
 | some (.b false)=>y
 | _=>stop cx 22 none
def condG (c:Operand) (x y:Fn):FF:=fun cx E M k a=>condK cx (x.run cx E M k a) (y.run cx E M k a) (opnd (view E M.S) c)
def blockA (id:Nat) (k:K0) (a:Ka):Ka:=fun sig E M=>Bool.rec (motive:=fun _=>Nat) (a sig E M) (k E M) (Nat.beq sig (Nat.succ id))
def blockF (id:Nat) (x:Fn):FF:=fun cx E M k a=>x.run cx E M k (blockA id k a)
def loopN (cx:Cx) (x:Fn) (a:Ka) (f:Nat):K0:=Nat.rec (motive:=fun _=>K0) (fun _ _=>stop cx 35 none) (fun _ ih E M=>x.run cx E M ih a) f
def fuelL :Nat:=1099511627776
def loopF (x:Fn):FF:=fun cx E M _ a=>loopN cx x a fuelL E M
def exitF (sig:Nat):FF:=fun _ E M _ a=>a sig E M
def delN (E:Nat):List (Nat × Nat × Nat)→Nat
 | []=>E
 | (_,d,_)::F=>putN (delN E F) (offs d) 0
def regW (fl:List (Nat × Nat × Nat)) (w:Wn):FF:=fun cx E M k _=>w.run cx [] (delN E fl) M k
def cR (n:Nat) (ops:Array Oper):Fn:=match planOf TT ops with
 | none=>badF 20
 | some (F,it)=>match fltOf ops n F with
  | none=>badF 21
  | some fl=>bif fltZ TT fl then .mk (regW fl (cW TT n ops it fl)) else badF 34
def cc (n:Nat):Code→Fn
 | .skip=>.mk nilFF
 | .region _ ops draw=>bif draw then cR TT n ops else cL2 TT n ops ops.toList
 | .seq a b=>.mk (seqF (cc n a) (cc n b))
 | .cond x a b=>match x with
  | .tmp t=>.mk (condF t (cc n a) (cc n b))
  | x=>.mk (condG x (cc n a) (cc n b))
 | .block id b=>.mk (blockF id (cc n b))
 | .loop b=>.mk (loopF (cc n b))
 | .exit k=>.mk (exitF (Nat.succ k))
 | .ret=>.mk (exitF 0)
 | .label _=>.mk nilFF
 | _=>badF 23
variable (FT:Nat→Option Func) (SM:T Summ)
structure Cn where
 mk ::
 rv:RT→Bool→List AV→T AO→Nat→KV→Nat
 rw:RT→Nat→Nat→T AO→Nat→KV→Nat
def argsN :List AV→Nat→Nat→SL→(Nat→SL→Nat)→Nat
 | [],_,E,S,c=>c E S
 | v::l,i,E,S,c=>bif Nat.beq (enc v) 255 then argsN l (Nat.succ i) (putN E (offs i) 255) (sput v i S) c else argsN l (Nat.succ i) (putN E (offs i) (enc v)) S c
def runDN (R:RT):DL→T AO→Nat→(T AO→Nat→Nat)→Nat
 | [],H,nx,c=>c H nx
 | (k,cap,vs)::D,H,nx,c=>R.rv false k (vs++cap) H nx fun _ _ H nx=>runDN R D H nx c
def resK (cx:Cx) (K:KV) (H:T AO) (nx:Nat):Option (List AV)→Nat
 | some l=>K (enc (oneA l)) (oneA l) H nx
 | none=>stop cx 27 none
def noD (D:DL):Bool:=List.rec (motive:=fun _=>Bool) true (fun _ _ _=>false) D
def finG (cx:Cx) (b:Bool) (rs:List ResultVar) (K:KV) (E:Nat) (M:Mm):Nat :=
 bif or b (noD M.D) then runDN cx.R M.D M.H M.nx fun H nx=>resK cx K H nx (resA TT (view E M.S) H rs) else stop cx 32 none
structure Rn where
 mk ::
 run:Cx→Bool→KV→Nat→Mm→Nat
def fin1 (t:Nat) (cx:Cx) (b:Bool) (K:KV) (E:Nat) (M:Mm):Nat:=Bool.rec (motive:=fun _=>Nat) (finG TT cx b [.tmp t] K E M) (inM M fun _ H nx _=>K (slot E (offs t)) undA H nx) (andB (tagOK (slot E (offs t))) (noD M.D))
def finN (rs:List ResultVar):Rn:=match rs with
 | [.tmp t]=>.mk (fin1 TT t)
 | rs=>.mk fun cx b K E M=>finG TT cx b rs K E M
def finA (cx:Cx) (f:K0):Ka:=fun sig E M=>Bool.rec (motive:=fun _=>Nat) (stop cx 25 none) (f E M) (Nat.beq sig 0)
def fnB (x:Fn) (r:Rn) (cx:Cx) (b:Bool) (K:KV) (E:Nat) (M:Mm):Nat:=x.run cx E M (r.run cx b K) (finA cx (r.run cx b K))
def fnG (k n:Nat) (x:Fn) (r:Rn):RT→Bool→List AV→T AO→Nat→KV→Nat:=fun R b vs H nx K =>
 bif Nat.ble vs.length n then argsN vs 0 0 [] fun E S=>fnB x r ⟨R,k⟩ b K E ⟨S,H,nx,[]⟩ else 28
def fnW (k n:Nat) (x:Fn) (r:Rn):RT→Nat→Nat→T AO→Nat→KV→Nat:=fun R E m H nx K =>
 Bool.rec (motive:=fun _=>Nat) 28 (fnB x r ⟨R,k⟩ true K E ⟨[],H,nx,[]⟩) (Nat.ble m n)
def cFn2 (k n:Nat) (x:Fn) (r:Rn):Cn:=.mk (fnG k n x r) (fnW k n x r)
def badC (c:Nat):Cn:=.mk (fun _ _ _ _ _ _=>c) (fun _ _ _ _ _ _=>c)
def cFn (k:Nat):Cn:=match FT k with
 | none=>badC (Nat.add 100000 k)
 | some fn=>match fn.body with
  | none=>badC 24
  | some c=>cFn2 k fn.ntmps (cc TT fn.ntmps c) (finN TT fn.results.toList)
def sumK (k:Nat) (K:KV):Option Eff→Nat
 | some (v,H,nx)=>K (enc v) v H nx
 | none=>Nat.add 100 k
def sumG (k:Nat) (F:Summ):RT→Bool→List AV→T AO→Nat→KV→Nat:=fun R b vs H nx K=>bif b then sumK k K (F vs H nx) else (cFn TT FT k).rv R b vs H nx K
def argsB (E:Nat):Nat→Nat→Option (List AV)
 | 0,_=>some []
 | m+1,i=>match dec (slot E (offs i)) with
  | none=>none
  | some v=>match argsB E m (Nat.succ i) with
   | none=>none
   | some l=>some (v::l)
def sumW (k:Nat) (F:Summ):RT→Nat→Nat→T AO→Nat→KV→Nat:=fun _ E m H nx K=>match argsB E m 0 with
 | none=>Nat.add 100 k
 | some vs=>sumK k K (F vs H nx)
def cCn (k:Nat):Cn:=match SM.get k with
 | some F=>.mk (sumG TT FT k F) (sumW k F)
 | none=>cFn TT FT k
def call0 :RT:=.mk (fun _ _ _ _ _ _=>0) (fun _ _ _ _ _ _=>0)
def callS (ih:RT):RT:=.mk (fun b k vs H nx K=>(cCn TT FT SM k).rv ih b vs H nx K) (fun k E m H nx K=>(cCn TT FT SM k).rw ih E m H nx K)
def callN (d:Nat):RT:=Nat.rec (motive:=fun _=>RT) call0 (fun _ ih=>callS TT FT SM ih) d
def yesK :KV:=fun w _ _ _=>bif Nat.beq (tagN w) 9 then 1 else Nat.add 2 w
def runN (d k:Nat):Nat:=(callN TT FT SM d).rv true k [] .e 0 yesK
end
section
variable {TT:Nat→Option TI} {FT:Nat→Option Func} {SM:T Summ}
theorem add_ne {a k:Nat} (h:1<a):Nat.add a k≠1:=fun e=>by
 have e:a+k=1:=e
 omega
theorem Ev.up {t:Tk} {r:Rs} {B:Nat} (h:∀ f,B≤f→step TT FT SM (exec TT FT SM f) t=r):Ev TT FT SM t r:=⟨B+1,fun f hf=>by
 cases f with
 | zero=>omega
 | succ f=>exact h f (by omega)⟩
theorem bool_split2 {c:Bool} {x y:Nat} {P:Prop} (h:Bool.rec (motive:=fun _=>Nat) x y c=1) (h0:c=false→x=1→P) (h1:c=true→y=1→P):P:=by
 cases c with
 | false=>exact h0 G h
 | true=>exact h1 G h
def fin (e:Ex) (k:K0) (a:Ka) (E:Nat) (M:Mm):Nat:=match e with
 | .normal=>k E M
 | .exit i=>a (i+1) E M
 | .ret=>a 0 E M
theorem step_loop {rec:Tk→Rs} {n:Nat} {b:Code} {s:S}:step TT FT SM rec (.code n (.loop b) s)=loopR rec n b fuelL s:=by simp only [step,fuelL]
attribute [local irreducible] fuelL
def FOkN (TT:Nat→Option TI) (FT:Nat→Option Func) (SM:T Summ) (n:Nat) (c:Code) (x:Fn):Prop:=∀ cx E M k a,RR TT FT SM cx.R→x.run cx E M k a=1 →
 ∃ E' M' e,fin e k a E' M'=1∧Ev TT FT SM (.code n c (absS E M)) (.ok e (absS E' M'))
theorem delN_ok {E:Nat} {S:SL}:∀ l,view (delN E l) S=delF (view E S) l
 | []=>rfl
 | (_,d,_)::l=>by rw [delN,view_del,delN_ok l]; rfl
theorem loopN_ok {n:Nat} {b:Code} {x:Fn} (hx:FOkN TT FT SM n b x) {cx:Cx} (hR:RR TT FT SM cx.R) {a:Ka}:∀ fu E M,loopN cx x a fu E M=1 →
  ∃ E' M' e,(∀ k,fin e k a E' M'=1)∧∃ B,∀ f,B≤f→loopR (exec TT FT SM f) n b fu (absS E M)=.ok e (absS E' M')
 | 0,E,M,h=>absurd h (stop_ne _ _ _)
 | fu+1,E,M,h=>by
  obtain ⟨E1,M1,e,h1,B1,g1⟩:=hx cx E M _ a hR h
  cases e with
  | normal =>
   obtain ⟨E2,M2,e2,h2,B2,g2⟩:=loopN_ok hx hR fu E1 M1 h1
   refine ⟨E2,M2,e2,h2,max B1 B2,fun f hf=>?_⟩
   rw [loopR,g1 f (by omega)]
   exact g2 f (by omega)
  | exit i=>exact ⟨E1,M1,.exit i,fun _=>h1,B1,fun f hf=>by rw [loopR,g1 f hf]⟩
  | ret=>exact ⟨E1,M1,.ret,fun _=>h1,B1,fun f hf=>by rw [loopR,g1 f hf]⟩
theorem badF_ok {n:Nat} {c:Code} {w:Nat}:FOkN TT FT SM n c (badF w):=fun cx E M k a hR h=>absurd h (stop_ne _ _ _)
theorem cR_ok (n id:Nat) (ops:Array Oper):FOkN TT FT SM n (.region id ops true) (cR TT n ops):=by
 intro cx E M k a hR h
 unfold cR at h
 rcases hp:planOf TT ops with _|⟨F,it⟩
 ·simp only [hp] at h; exact absurd h (stop_ne _ _ _)
 ·simp only [hp] at h
  rcases hf:fltOf ops n F with _|fl
  ·simp only [hf] at h; exact absurd h (stop_ne _ _ _)
  ·simp only [hf] at h
   by_cases hz:fltZ TT fl=true
   ·rw [hz] at h
    obtain ⟨E',M',h2,B,hB⟩:=cW_ok n ops it fl hR (h:(cW TT n ops it fl).run cx [] (delN E fl) M k=1)
    refine ⟨E',M',.normal,h2,Ev.up (B:=B) fun f hf'=>?_⟩
    have hB:=hB f hf'
    simp only [absS,delN_ok] at hB
    simp only [step,hp,hf,hz,absS]
    exact hB
   ·rw [Bool.eq_false_iff.2 hz] at h; exact absurd h (stop_ne _ _ _)
theorem cond_ok {n:Nat} {c:Operand} {a b:Code} {x y:Fn} (hx:FOkN TT FT SM n a x) (hy:FOkN TT FT SM n b y) (cx:Cx) (E:Nat) (M:Mm) (k:K0) (ka:Ka) (hR:RR TT FT SM cx.R)
  (h:(opnd (view E M.S) c=some (.b true)∧x.run cx E M k ka=1)∨(opnd (view E M.S) c=some (.b false)∧y.run cx E M k ka=1)) :
  ∃ E' M' e,fin e k ka E' M'=1∧Ev TT FT SM (.code n (.cond c a b) (absS E M)) (.ok e (absS E' M')):=by
 rcases h with ⟨hc,h⟩|⟨hc,h⟩
 ·obtain ⟨E',M',e,h2,B,hB⟩:=hx cx E M k ka hR h
  exact ⟨E',M',e,h2,Ev.up (B:=B) fun f hf=>by simp only [step]; rw [show (absS E M).E=view E M.S from rfl,hc]; exact hB f hf⟩
 ·obtain ⟨E',M',e,h2,B,hB⟩:=hy cx E M k ka hR h
  exact ⟨E',M',e,h2,Ev.up (B:=B) fun f hf=>by simp only [step]; rw [show (absS E M).E=view E M.S from rfl,hc]; exact hB f hf⟩
theorem condG_ok {n:Nat} {c:Operand} {a b:Code} {x y:Fn} (hx:FOkN TT FT SM n a x) (hy:FOkN TT FT SM n b y):FOkN TT FT SM n (.cond c a b) (.mk (condG c x y)):=by
 intro cx E M k ka hR h
 refine cond_ok hx hy cx E M k ka hR ?_
 replace h:condK cx (x.run cx E M k ka) (y.run cx E M k ka) (opnd (view E M.S) c)=1:=h
 revert h
 match opnd (view E M.S) c with
 | some (.b true)=>exact fun h=>.inl ⟨rfl,h⟩
 | some (.b false)=>exact fun h=>.inr ⟨rfl,h⟩
 | none=>exact fun h=>absurd h (stop_ne _ _ _)
 | some .np|some .ns|some .nf|some .nm|some .ni|some .es|some .o|some (.i _ _)|some (.s _ _)|some (.p _ _)|some (.sl _ _ _ _ _)|some (.f _ _ _)|some (.ag _)|some (.tu _)|some (.m _)|some (.it _ _)=>exact fun h=>absurd h (stop_ne _ _ _)
theorem condF_ok {n t:Nat} {a b:Code} {x y:Fn} (hx:FOkN TT FT SM n a x) (hy:FOkN TT FT SM n b y):FOkN TT FT SM n (.cond (.tmp t) a b) (.mk (condF t x y)):=by
 intro cx E M k ka hR h
 refine cond_ok hx hy cx E M k ka hR ?_
 obtain ⟨t9,t1,_⟩:=@view_tag E M.S t
 refine bool_split (h:condB cx (x.run cx E M k ka) (y.run cx E M k ka) (tagN (slot E (offs t)))=1) (fun h=>?_) fun e h=>.inl ⟨t9 (beq_t e),h⟩
 exact bool_split h (fun h=>absurd h (stop_ne _ _ _)) fun e h=>.inr ⟨t1 (beq_t e),h⟩
theorem cc_ok (n:Nat):∀ c:Code,FOkN TT FT SM n c (cc TT n c)
 | .skip=>fun cx E M k a hR h=>⟨E,M,.normal,h,Ev.up (B:=0) fun f _=>rfl⟩
 | .label l=>fun cx E M k a hR h=>⟨E,M,.normal,h,Ev.up (B:=0) fun f _=>rfl⟩
 | .exit i=>fun cx E M k a hR h=>⟨E,M,.exit i,h,Ev.up (B:=0) fun f _=>rfl⟩
 | .ret=>fun cx E M k a hR h=>⟨E,M,.ret,h,Ev.up (B:=0) fun f _=>rfl⟩
 | .region id ops true=>cR_ok n id ops
 | .region id ops false=>fun cx E M k a hR h=>by
  obtain ⟨E',M',h2,B,hB⟩:=cL_ok n ops ops.toList hR (show (cL TT n ops ops.toList).run cx E M k a=1 by rw [← cL2_eq]; exact h)
  exact ⟨E',M',.normal,h2,Ev.up (B:=B) fun f hf=>hB f hf⟩
 | .seq a b=>fun cx E M k ka hR h=>by
  obtain ⟨E1,M1,e1,h1,B1,g1⟩:=cc_ok n a cx E M _ ka hR h
  cases e1 with
  | normal =>
   obtain ⟨E2,M2,e2,h2,B2,g2⟩:=cc_ok n b cx E1 M1 k ka hR h1
   exact ⟨E2,M2,e2,h2,Ev.up (B:=max B1 B2) fun f hf=>by simp only [step]; rw [g1 f (by omega)]; exact g2 f (by omega)⟩
  | exit i=>exact ⟨E1,M1,.exit i,h1,Ev.up (B:=B1) fun f hf=>by simp only [step]; rw [g1 f hf]⟩
  | ret=>exact ⟨E1,M1,.ret,h1,Ev.up (B:=B1) fun f hf=>by simp only [step]; rw [g1 f hf]⟩
 | .cond (.tmp t) a b=>condF_ok (cc_ok n a) (cc_ok n b)
 | .cond (.const _) a b=>condG_ok (cc_ok n a) (cc_ok n b)
 | .cond (.global _) a b=>condG_ok (cc_ok n a) (cc_ok n b)
 | .cond (.func _) a b=>condG_ok (cc_ok n a) (cc_ok n b)
 | .block id b=>fun cx E M k ka hR h=>by
  obtain ⟨E1,M1,e1,h1,B1,g1⟩:=cc_ok n b cx E M k (blockA id k ka) hR h
  cases e1 with
  | normal=>exact ⟨E1,M1,.normal,h1,Ev.up (B:=B1) fun f hf=>by simp only [step]; rw [g1 f hf]⟩
  | ret=>exact ⟨E1,M1,.ret,h1,Ev.up (B:=B1) fun f hf=>by simp only [step]; rw [g1 f hf]⟩
  | exit i =>
   refine bool_split2 (h1:blockA id k ka (i+1) E1 M1=1) (fun hi h1=>?_) fun hi h1=>?_
   ·refine ⟨E1,M1,.exit i,h1,Ev.up (B:=B1) fun f hf=>?_⟩
    have hi:¬ i=id:=fun e=>by
     subst e
     rw [show Nat.beq (i+1) (Nat.succ i)=true by rw [Nat.beq_eq]] at hi
     cases hi
    simp only [step]; rw [g1 f hf]
    simp only [cond_eq_ite,Nat.beq_eq,if_neg hi]
   ·have hi:=beq_t hi
    simp only [Nat.succ_eq_add_one,Nat.add_right_cancel_iff] at hi
    exact ⟨E1,M1,.normal,h1,Ev.up (B:=B1) fun f hf=>by simp only [step]; rw [g1 f hf]; simp [hi]⟩
 | .loop b=>fun cx E M k ka hR h=>by
  obtain ⟨E1,M1,e1,h1,B,hB⟩:=loopN_ok (cc_ok n b) hR fuelL E M h
  exact ⟨E1,M1,e1,h1 k,Ev.up (B:=B) fun f hf=>by rw [step_loop]; exact hB f hf⟩
 | .rangeFunc ..=>badF_ok
 | .scope _=>badF_ok
 | .goto _=>badF_ok
 | .refuse _=>badF_ok
theorem argsN_ok :∀ (l:List AV) (i:Nat) (E:Nat) (S:SL) (c:Nat→SL→Nat),argsN l i E S c=1→∃ E' S',view E' S'=argsT l (view E S) i∧c E' S'=1
 | [],i,E,S,c,h=>⟨E,S,rfl,h⟩
 | v::l,i,E,S,c,h=>by
  simp only [argsN,cond_eq_ite,Nat.beq_eq] at h
  split at h
  ·obtain ⟨E',S',g1,g2⟩:=argsN_ok l _ _ _ _ h
   exact ⟨E',S',by rw [g1,view_big]; rfl,g2⟩
  ·rename_i hne
   obtain ⟨E',S',g1,g2⟩:=argsN_ok l _ _ _ _ h
   exact ⟨E',S',by rw [g1,view_small ((enc_wr v).resolve_left hne)]; rfl,g2⟩
theorem runDN_ok {R:RT} (hR:RR TT FT SM R):∀ (D:DL) (H:T AO) (nx:Nat) (c:T AO→Nat→Nat),runDN R D H nx c=1→∃ H' nx',c H' nx'=1∧∃ B,∀ f,B≤f→runD (exec TT FT SM f) D H nx=some (H',nx')
 | [],H,nx,c,h=>⟨H,nx,h,0,fun f _=>rfl⟩
 | (k,cap,vs)::D,H,nx,c,h=>by
  obtain ⟨v,w,v',H1,nx1,⟨B1,hB1⟩,_,h1⟩:=hR.v h
  obtain ⟨H2,nx2,h2,B2,hB2⟩:=runDN_ok hR D H1 nx1 c h1
  refine ⟨H2,nx2,h2,max B1 B2,fun f hf=>?_⟩
  have:=hB1 f (by omega)
  simp only [cond_false] at this
  rw [runD,this]
  exact hB2 f (by omega)
theorem noD_ok {D:DL} (h:noD D=true):D=[]:=by
 cases D with
 | nil=>rfl
 | cons a l=>cases h
def FinOk (TT:Nat→Option TI) (FT:Nat→Option Func) (SM:T Summ) (b:Bool) (rs:List ResultVar) (K:KV) (E:Nat) (M:Mm):Prop :=
 ∃ l w v' H' nx',VW w v' (oneA l)∧K w v' H' nx'=1∧(b=false→M.D=[])∧resA TT (view E M.S) H' rs=some l∧∃ B,∀ f,B≤f→runD (exec TT FT SM f) M.D M.H M.nx=some (H',nx')
theorem finG_ok {cx:Cx} {b:Bool} {rs:List ResultVar} {K:KV} {E:Nat} {M:Mm} (hR:RR TT FT SM cx.R) (h:finG TT cx b rs K E M=1):FinOk TT FT SM b rs K E M:=by
 unfold finG at h
 by_cases hd:or b (noD M.D)=true
 ·rw [hd] at h
  obtain ⟨H2,nx2,h5,B2,hB2⟩:=runDN_ok hR _ _ _ _ h
  rcases hres:resA TT (view E M.S) H2 rs with _|l
  ·rw [hres] at h5; exact absurd h5 (stop_ne _ _ _)
  ·rw [hres] at h5
   refine ⟨l,_,_,H2,nx2,enc_vw _,h5,fun hb=>?_,hres,B2,hB2⟩
   subst hb
   exact noD_ok (by simpa using hd)
 ·rw [Bool.eq_false_iff.2 hd,cond_false] at h; exact absurd h (stop_ne _ _ _)
theorem fin1_ok {t:Nat} {cx:Cx} {b:Bool} {K:KV} {E:Nat} {M:Mm} (hR:RR TT FT SM cx.R) (h:fin1 TT t cx b K E M=1):FinOk TT FT SM b [.tmp t] K E M:=by
 refine bool_split h (finG_ok hR) fun hc h=>?_
 obtain ⟨h1,h2⟩:=andB_t hc
 obtain ⟨v,h3,h4⟩:=tagOK_dec h1
 refine ⟨[v],_,_,M.H,M.nx,.inr ⟨h4,h3,slot_lt _ _⟩,h,fun _=>noD_ok h2,?_,0,fun f _=>by rw [noD_ok h2]; rfl⟩
 simp only [resA,view_get h1,h3]
theorem finN_ok {cx:Cx} {b:Bool} {rs:List ResultVar} {K:KV} {E:Nat} {M:Mm} (hR:RR TT FT SM cx.R) (h:(finN TT rs).run cx b K E M=1):FinOk TT FT SM b rs K E M:=by
 unfold finN at h
 split at h
 ·exact fin1_ok hR h
 ·exact finG_ok hR h
theorem fnB_ok {R:RT} (hR:RR TT FT SM R) {b:Bool} {k:Nat} {fn:Func} {c:Code} (hk:FT k=some fn) (hb:fn.body=some c) (hs:b=true→SM.get k=none) {vs:List AV} (hl:Nat.ble vs.length fn.ntmps=true) {H:T AO} {nx:Nat} {K:KV} {E:Nat} {S:SL}
  (hE:view E S=argsT vs En.e 0) (h:fnB (cc TT fn.ntmps c) (finN TT fn.results.toList) ⟨R,k⟩ b K E ⟨S,H,nx,[]⟩=1) :
  ∃ v w v' H' nx',Ev TT FT SM (bif b then .fn k vs H nx else .dfn k vs H nx) (.val v H' nx')∧VW w v' v∧K w v' H' nx'=1:=by
 obtain ⟨E',M',e,h4,B,hB⟩:=cc_ok fn.ntmps c ⟨R,k⟩ E ⟨S,H,nx,[]⟩ _ _ hR h
 have hB:∀ f,B≤f→exec TT FT SM f (.code fn.ntmps c ⟨argsT vs .e 0,H,nx,[]⟩)=.ok e (absS E' M'):=by
  intro f hf
  have:=hB f hf
  simp only [absS,hE] at this
  exact this
 have hf:(e=.normal∨e=.ret)∧(finN TT fn.results.toList).run ⟨R,k⟩ b K E' M'=1:=by
  cases e with
  | normal=>exact ⟨.inl G,h4⟩
  | ret=>exact ⟨.inr G,h4⟩
  | exit i=>exact absurd (h4:stop _ _ _=1) (stop_ne _ _ _)
 obtain ⟨he,hf⟩:=hf
 obtain ⟨l,w,v',H2,nx2,hw,h5,hD,hres,B2,hB2⟩:=finN_ok (cx:=⟨R,k⟩) hR hf
 refine ⟨oneA l,w,v',H2,nx2,Ev.up (B:=max B B2) fun f hf'=>?_,hw,h5⟩
 have g1:=hB f (by omega)
 have g2:=hB2 f (by omega)
 cases b with
 | true =>
  simp only [cond_true,step,hs G,hk,hb,hl,g1]
  rcases he with rfl|rfl<;>simp only [absS,g2,hres]
 | false =>
  have hD:=hD G
  rw [hD] at g2
  simp only [runD,Option.some.injEq,Prod.mk.injEq] at g2
  obtain ⟨e1,e2⟩:=g2
  simp only [cond_false,step,hk,hb,hl,cond_true,g1]
  rcases he with rfl|rfl<;>simp only [absS,hD,e1,e2,hres]
theorem cFn_v {R:RT} (hR:RR TT FT SM R) {b:Bool} {k:Nat} (hs:b=true→SM.get k=none) {vs:List AV} {H:T AO} {nx:Nat} {K:KV} (h:(cFn TT FT k).rv R b vs H nx K=1) :
  ∃ v w v' H' nx',Ev TT FT SM (bif b then .fn k vs H nx else .dfn k vs H nx) (.val v H' nx')∧VW w v' v∧K w v' H' nx'=1:=by
 unfold cFn at h
 rcases hk:FT k with _|fn
 ·simp only [hk] at h
  exact absurd h (add_ne (by omega))
 ·simp only [hk] at h
  rcases hb:fn.body with _|c
  ·simp only [hb] at h; exact absurd h (show ¬ (24:Nat)=1 by decide)
  ·simp only [hb] at h
   replace h:fnG k fn.ntmps (cc TT fn.ntmps c) (finN TT fn.results.toList) R b vs H nx K=1:=h
   unfold fnG at h
   by_cases hl:Nat.ble vs.length fn.ntmps=true
   ·rw [hl] at h
    obtain ⟨E,S,h1,h2⟩:=argsN_ok vs 0 0 [] _ h
    exact fnB_ok hR hk hb hs hl (by rw [h1,view_zero]) h2
   ·rw [Bool.eq_false_iff.2 hl] at h; exact absurd h (show ¬ (28:Nat)=1 by decide)
theorem cFn_w {R:RT} (hR:RR TT FT SM R) {k:Nat} (hs:SM.get k=none) {vs:List AV} {H:T AO} {nx:Nat} {K:KV} {E m:Nat} (hm:vs.length=m) (hE:view E []=argsT vs En.e 0) (h:(cFn TT FT k).rw R E m H nx K=1) :
  ∃ v w v' H' nx',Ev TT FT SM (.fn k vs H nx) (.val v H' nx')∧VW w v' v∧K w v' H' nx'=1:=by
 unfold cFn at h
 rcases hk:FT k with _|fn
 ·simp only [hk] at h
  exact absurd h (add_ne (by omega))
 ·simp only [hk] at h
  rcases hb:fn.body with _|c
  ·simp only [hb] at h; exact absurd h (show ¬ (24:Nat)=1 by decide)
  ·simp only [hb] at h
   refine bool_split (h:fnW k fn.ntmps (cc TT fn.ntmps c) (finN TT fn.results.toList) R E m H nx K=1) (fun h=>absurd h (by decide)) fun hl h=>?_
   exact fnB_ok (b:=true) hR hk hb (fun _=>hs) (by rw [hm]; exact hl) hE h
theorem argsV_get :∀ {vs:List AV} {E:En} {i j:Nat},(argsT vs E i).get j=if i≤j∧j<i+vs.length then vs[j - i]? else E.get j
 | [],E,i,j=>by rw [if_neg (by simp)]; rfl
 | v::vs,E,i,j=>by
  rw [argsT,argsV_get,En.get_put]
  simp only [Nat.succ_eq_add_one,List.length_cons]
  by_cases h:i+1≤j∧j<i+1+vs.length
  ·rw [if_pos h,if_pos (by omega),show j - i=(j - (i+1))+1 by omega,List.getElem?_cons_succ]
  ·rw [if_neg h]
   by_cases hj:j=i
   ·subst hj; rw [if_pos rfl,if_pos (by omega)]; simp
   ·rw [if_neg hj,if_neg (by omega)]
theorem argsB_ok {E:Nat} {us:List AV} (hE:view E []=argsT us En.e 0):∀ {m i:Nat} {vs:List AV},i+m=us.length→argsB E m i=some vs→vs=us.drop i
 | 0,i,vs,hm,h=>by
  simp only [argsB,Option.some.injEq] at h; subst h
  rw [List.drop_of_length_le (by omega)]
 | m+1,i,vs,hm,h=>by
  simp only [argsB] at h
  split at h
  ·cases h
  ·rename_i v hv
   split at h
   ·cases h
   ·rename_i l hl
    simp only [Option.some.injEq] at h; subst h
    have e:=argsB_ok hE (by omega:Nat.succ i+m=us.length) hl
    have e1:(view E []).get i=some v:=(view_get (tagOK_of_dec hv)).trans hv
    rw [hE,argsV_get,if_pos (by omega),Nat.sub_zero] at e1
    rw [e,List.drop_eq_getElem_cons (by omega:i<us.length)]
    rw [List.getElem?_eq_getElem (by omega)] at e1
    simp only [Option.some.injEq] at e1
    rw [e1]
theorem sum_ok {k:Nat} {F:Summ} (hs:SM.get k=some F) {vs:List AV} {H:T AO} {nx:Nat} {K:KV} (h:sumK k K (F vs H nx)=1) :
  ∃ v w v' H' nx',Ev TT FT SM (.fn k vs H nx) (.val v H' nx')∧VW w v' v∧K w v' H' nx'=1:=by
 rcases hF:F vs H nx with _|⟨v,H',nx'⟩
 ·rw [hF] at h
  exact absurd h (add_ne (by omega))
 ·rw [hF] at h
  exact ⟨v,_,_,H',nx',Ev.up (B:=0) fun f _=>by simp only [step,hs,hF],enc_vw v,h⟩
theorem callN_ok :∀ d,RR TT FT SM (callN TT FT SM d)
 | 0=>⟨fun h=>(by cases h),fun h=>(by cases h)⟩
 | d+1=>by
  have ih:=callN_ok d
  refine ⟨fun {b k vs H nx K} h=>?_,fun {k E m vs H nx K} h hm hE=>?_⟩
  ·replace h:(cCn TT FT SM k).rv (callN TT FT SM d) b vs H nx K=1:=h
   unfold cCn at h
   rcases hs:SM.get k with _|F
   ·simp only [hs] at h
    exact cFn_v ih (fun _=>hs) h
   ·simp only [hs] at h
    replace h:sumG TT FT k F (callN TT FT SM d) b vs H nx K=1:=h
    unfold sumG at h
    cases b with
    | false=>exact cFn_v ih (fun e=>by cases e) h
    | true =>
     rw [cond_true] at h
     obtain ⟨v,w,v',H',nx',h1,h2⟩:=sum_ok hs h
     exact ⟨v,w,v',H',nx',h1,h2⟩
  ·replace h:(cCn TT FT SM k).rw (callN TT FT SM d) E m H nx K=1:=h
   unfold cCn at h
   rcases hs:SM.get k with _|F
   ·simp only [hs] at h
    exact cFn_w ih hs hm hE h
   ·simp only [hs] at h
    replace h:sumW k F (callN TT FT SM d) E m H nx K=1:=h
    unfold sumW at h
    rcases ha:argsB E m 0 with _|us
    ·rw [ha] at h; exact absurd h (add_ne (by omega))
    ·rw [ha] at h
     have e:=argsB_ok hE (by omega:0+m=vs.length) ha
     rw [List.drop_zero] at e; subst e
     exact sum_ok hs h
end
theorem runN_true {P:Program} {TT:Nat→Option TI} {FT:Nat→Option Func} {SM:T Summ} (hT:TOk P TT) (hF:FOk P FT) (hm:P.follows .mixedOrders=true) (hM:SOk P SM) {d k:Nat} (h:Nat.beq (runN TT FT SM d k) 1=true) (w0:World):Spec P w0 k [] 0 fun v _=>v=.bool true:=by
 obtain ⟨v,w,v',H,nx,⟨B,hB⟩,hw,h⟩:=(callN_ok (TT:=TT) (FT:=FT) (SM:=SM) d).v (Nat.eq_of_beq_eq_true h)
 refine exec_true hm hT hF hM (f:=B) ?_ w0
 have:=hB B (Nat.le_refl _)
 rw [cond_true] at this
 rw [this]
 unfold yesK at h
 rw [cond_eq_ite] at h
 split at h
 ·rename_i ht
  have ht:=beq_t ht
  rcases hw with ⟨rfl,_⟩|⟨_,hd,_⟩
  ·exact absurd ht (by decide)
  ·rw [dec_t ht] at hd
   simp only [Option.some.injEq] at hd; subst hd; rfl
 ·exact absurd h (add_ne (by omega))
end
end Ab
end Sl
end Go.Proofs.YtfahijncpmlhjaaGreat
namespace Go.Proofs.YtfahijncpmlhjaaGreat
open Go Go.RowKit
namespace Sl
namespace Ab
noncomputable section
def valK (w:Nat) (v:AV):AV:=bif Nat.beq w 255 then v else (match dec w with
 | some u=>u
 | none=>v)
theorem valK_eq {w:Nat} {v' v:AV} (h:VW w v' v):valK w v'=v:=by
 unfold valK
 rcases h with ⟨rfl,rfl⟩|⟨h1,h2,_⟩
 ·rfl
 ·rw [h2,cond_eq_ite]
  split
  ·rename_i e
   rw [beq_t e] at h1
   exact absurd G h1
  ·rfl
section
variable {P:Program} {TT:Nat→Option TI} {FT:Nat→Option Func} {SM:T Summ}
def thenN (R:RT) (k:Nat) (vs:List AV) (H:T AO) (nx:Nat) (c:AV→T AO→Nat→Nat):Nat:=R.rv true k vs H nx fun w v H nx=>c (valK w v) H nx
theorem thenN_ok {d k:Nat} {vs:List AV} {H:T AO} {nx:Nat} {c:AV→T AO→Nat→Nat} (h:thenN (callN TT FT SM d) k vs H nx c=1):∃ v H' nx',Ev TT FT SM (.fn k vs H nx) (.val v H' nx')∧c v H' nx'=1:=by
 obtain ⟨v,w,v',H',nx',h1,h2,h3⟩:=(callN_ok (TT:=TT) (FT:=FT) (SM:=SM) d).v h
 refine ⟨v,H',nx',h1,?_⟩
 rw [← valK_eq h2]; exact h3
theorem ev_spec (hm:P.follows .mixedOrders=true) (hT:TOk P TT) (hF:FOk P FT) (hM:SOk P SM) {k:Nat} {vs:List AV} {H H':T AO} {nx nx':Nat} {v:AV} (h:Ev TT FT SM (.fn k vs H nx) (.val v H' nx')) {w0:World} {V:Val} {us:List Value} {h0:Hp} (hl:RL V vs us) (hh:RH P V H nx h0) :
  Spec P w0 k us h0 fun u h'=>∃ V',V≤V'∧R V' v u∧RH P V' H' nx' h':=by
 obtain ⟨B,hB⟩:=h
 exact ((exec_snd hm hT hF hM B).fn (hB B (Nat.le_refl _))).2 hl hh
end
def wordsB (c:Nat):List Nat→Nat→Bool
 | [],_=>true
 | w::l,k=>bif Nat.beq w 0 then wordsB c l (Nat.succ k) else bif Nat.beq (slot c (offs k)) w then wordsB c l (Nat.succ k) else false
def blockB (H:T AO) (id e n:Nat) (l:List Nat):Bool:=match H.get id with
 | some (.c e' m kn (.pk c))=>and (Nat.beq e' e) (and (and (Nat.beq m n) kn) (wordsB c l 0))
 | _=>false
theorem wordsB_ok {c:Nat}:∀ {l:List Nat} {k:Nat},wordsB c l k=true→∀ i w,l[i]?=some w→w≠0→slot c (offs (k+i))=w
 | [],k,h,i,w,hi,_=>by cases hi
 | x::l,k,h,i,w,hi,hw=>by
  simp only [wordsB,cond_eq_ite,Nat.beq_eq] at h
  cases i with
  | zero =>
   simp only [List.getElem?_cons_zero,Option.some.injEq] at hi; subst hi
   rw [if_neg hw] at h
   split at h
   ·rename_i e; exact e
   ·cases h
  | succ i =>
   have hl:wordsB c l (Nat.succ k)=true:=by
    split at h
    ·exact h
    ·split at h
     ·exact h
     ·cases h
   rw [show k+(i+1)=Nat.succ k+i by omega]
   exact wordsB_ok hl i w (by simpa using hi) hw
theorem blockB_ok {P:Program} {V:Val} {H:T AO} {nx:Nat} {h:Hp} (hH:RH P V H nx h) {id e n:Nat} {l:List Nat} (hb:blockB H id e n l=true) :
  ∃ b C c Rr,V id=some (b,C)∧h=pt b (.cells c.toArray e (0,0))+Rr∧c.length=n∧AllOne c∧(∀ i w v,l[i]?=some w→i<n→w≠0→dec w=some v→∃ u,c[i]?=some u∧R V v u)∧∃ o,H.get id=some o:=by
 unfold blockB at hb
 split at hb
 ·rename_i e' m kn cw ho
  simp only [Bool.and_eq_true,Nat.beq_eq] at hb
  obtain ⟨rfl,⟨rfl,rfl⟩,hw⟩:=hb
  obtain ⟨b,C,ob,Rr,hV,hh,hO⟩:=hH.has id _ ho
  obtain ⟨h0,c,rfl,h2,h3,h4,h5,h6⟩:=hO
  refine ⟨b,C,c,Rr,hV,hh,h4 G,h2,fun i w v hi hin hw0 hd=>?_,_,ho⟩
  have hs:=wordsB_ok hw i w hi hw0
  rw [Nat.zero_add] at hs
  exact h6 i v hin (by simp only [CT.get,hs,hd])
 ·cases hb
end
end Ab
end Sl
end Go.Proofs.YtfahijncpmlhjaaGreat
namespace Go.Proofs.YtfahijncpmlhjaaGreat
open Go Go.RowKit
namespace Sl
set_option maxRecDepth 4000
noncomputable section
def RR :Ab.RT:=Ab.callN (Ab.tiT Tryz.prog) (Ab.fnT Tryz.prog) Ab.T.e 1000
def clW :List Nat:=[0,0,0,0,0,0,0,0,35,0,0,0,0,0,0,0,0,0,0,0,0,0,0,3,8714,1,0,0,0,0,0,0,0,3,35,35,3,1]
def txW :List Nat:=[0,0,3,0,3,0,0,0]
def startN :Nat:=Ab.thenN RR 10 [] .e 0 fun v1 H1 n1=>Ab.thenN RR 9 [v1,.i .i64 1] H1 n1 fun v2 H2 n2=>Ab.thenN RR 12 [.i .i64 1,.i .i64 0,.ns] H2 n2 fun v3 H3 n3=>match v2 with
 | .tu [.p id off,_]=>bif and (Nat.beq id 26) (Nat.beq off 0) then Ab.thenN RR 11 [.p 26 0,v3] H3 n3 fun v4 H4 n4=>bif and (Ab.blockB H4 26 95 38 clW) (Ab.blockB H4 34 117 8 txW) then 1 else 0 else 0
 | _=>0
theorem startN_one :Nat.beq startN 1=true:=by kernel_rfl
theorem works_true :Nat.beq (Ab.runN (Ab.tiT Tryz.prog) (Ab.fnT Tryz.prog) (Ab.T.e:Ab.T Ab.Summ) 1000 8) 1=true:=by kernel_rfl
theorem mixed_ok :Tryz.prog.follows .mixedOrders=true:=by kernel_rfl
theorem works_spec (w0:World):Spec Tryz.prog w0 8 [] 0 fun v _=>v=.bool true:=Ab.runN_true (Ab.tiT_ok _) (Ab.fnT_ok _) mixed_ok (Ab.no_summ _) works_true w0
abbrev EvT (k:Nat) (vs:List Ab.AV) (H:Ab.T Ab.AO) (nx:Nat) (v:Ab.AV) (H':Ab.T Ab.AO) (nx':Nat):Prop:=Ab.Ev (Ab.tiT Tryz.prog) (Ab.fnT Tryz.prog) Ab.T.e (.fn k vs H nx) (.val v H' nx')
theorem start_ev :∃ v1 H1 n1 e2 H2 n2 v3 H3 n3 v4 H4 n4,EvT 10 [] .e 0 v1 H1 n1∧EvT 9 [v1,.i .i64 1] H1 n1 (.tu [.p 26 0,e2]) H2 n2∧EvT 12 [.i .i64 1,.i .i64 0,.ns] H2 n2 v3 H3 n3∧EvT 11 [.p 26 0,v3] H3 n3 v4 H4 n4 ∧
  Ab.blockB H4 26 95 38 clW=true∧Ab.blockB H4 34 117 8 txW=true:=by
 have h:=Nat.eq_of_beq_eq_true startN_one
 obtain ⟨v1,H1,n1,g1,h⟩:=Ab.thenN_ok h
 obtain ⟨v2,H2,n2,g2,h⟩:=Ab.thenN_ok h
 obtain ⟨v3,H3,n3,g3,h⟩:=Ab.thenN_ok h
 split at h
 ·rename_i id off e2 hq
  rw [cond_eq_ite] at h
  split at h
  ·rename_i hc
   simp only [Bool.and_eq_true,Nat.beq_eq] at hc
   obtain ⟨rfl,rfl⟩:=hc
   obtain ⟨v4,H4,n4,g4,h⟩:=Ab.thenN_ok h
   rw [cond_eq_ite] at h
   split at h
   ·rename_i hc
    rw [Bool.and_eq_true] at hc
    exact ⟨v1,H1,n1,e2,H2,n2,v3,H3,n3,v4,H4,n4,g1,g2,g3,g4,hc.1,hc.2⟩
   ·exact absurd h (by decide)
  ·exact absurd h (by decide)
 ·exact absurd h (by decide)
theorem two_pt {b t:Nat} {x y:Obj} {R S:Hp} (h:pt b x+R=pt t y+S) (hne:x≠y):∃ T,R=pt t y+T:=by
 induction R using Quotient.ind with|_ r =>
 induction S using Quotient.ind with|_ s =>
 have hp:((b,x)::r).Perm ((t,y)::s):=Quotient.exact h
 have hm:(t,y)∈(b,x)::r:=hp.mem_iff.2 (List.mem_cons_self ..)
 rcases List.mem_cons.1 hm with e|hm
 ·exact absurd (congrArg Prod.snd e).symm hne
 ·obtain ⟨r1,r2,rfl⟩:=List.append_of_mem hm
  exact ⟨Hp.mk (r1++r2),Quotient.sound List.perm_middle⟩
theorem len38 {c:List Value} (h:c.length=38):∃ x0 x1 x2 x3 x4 x5 x6 x7 x8 x9 x10 x11 x12 x13 x14 x15 x16 x17 x18 x19 x20 x21 x22 x23 x24 x25 x26 x27 x28 x29 x30 x31 x32 x33 x34 x35 x36 x37,c=x0::x1::x2::x3::x4::x5::x6::x7::x8::x9::x10::x11::x12::x13::x14::x15::x16::x17::x18::x19::x20::x21::x22::x23::x24::x25::x26::x27::x28::x29::x30::x31::x32::x33::x34::x35::x36::x37::[]:=by
 rcases c with _|⟨x0,c⟩
 ·exact absurd h (by simp)
 rcases c with _|⟨x1,c⟩
 ·exact absurd h (by simp)
 rcases c with _|⟨x2,c⟩
 ·exact absurd h (by simp)
 rcases c with _|⟨x3,c⟩
 ·exact absurd h (by simp)
 rcases c with _|⟨x4,c⟩
 ·exact absurd h (by simp)
 rcases c with _|⟨x5,c⟩
 ·exact absurd h (by simp)
 rcases c with _|⟨x6,c⟩
 ·exact absurd h (by simp)
 rcases c with _|⟨x7,c⟩
 ·exact absurd h (by simp)
 rcases c with _|⟨x8,c⟩
 ·exact absurd h (by simp)
 rcases c with _|⟨x9,c⟩
 ·exact absurd h (by simp)
 rcases c with _|⟨x10,c⟩
 ·exact absurd h (by simp)
 rcases c with _|⟨x11,c⟩
 ·exact absurd h (by simp)
 rcases c with _|⟨x12,c⟩
 ·exact absurd h (by simp)
 rcases c with _|⟨x13,c⟩
 ·exact absurd h (by simp)
 rcases c with _|⟨x14,c⟩
 ·exact absurd h (by simp)
 rcases c with _|⟨x15,c⟩
 ·exact absurd h (by simp)
 rcases c with _|⟨x16,c⟩
 ·exact absurd h (by simp)
 rcases c with _|⟨x17,c⟩
 ·exact absurd h (by simp)
 rcases c with _|⟨x18,c⟩
 ·exact absurd h (by simp)
 rcases c with _|⟨x19,c⟩
 ·exact absurd h (by simp)
 rcases c with _|⟨x20,c⟩
 ·exact absurd h (by simp)
 rcases c with _|⟨x21,c⟩
 ·exact absurd h (by simp)
 rcases c with _|⟨x22,c⟩
 ·exact absurd h (by simp)
 rcases c with _|⟨x23,c⟩
 ·exact absurd h (by simp)
 rcases c with _|⟨x24,c⟩
 ·exact absurd h (by simp)
 rcases c with _|⟨x25,c⟩
 ·exact absurd h (by simp)
 rcases c with _|⟨x26,c⟩
 ·exact absurd h (by simp)
 rcases c with _|⟨x27,c⟩
 ·exact absurd h (by simp)
 rcases c with _|⟨x28,c⟩
 ·exact absurd h (by simp)
 rcases c with _|⟨x29,c⟩
 ·exact absurd h (by simp)
 rcases c with _|⟨x30,c⟩
 ·exact absurd h (by simp)
 rcases c with _|⟨x31,c⟩
 ·exact absurd h (by simp)
 rcases c with _|⟨x32,c⟩
 ·exact absurd h (by simp)
 rcases c with _|⟨x33,c⟩
 ·exact absurd h (by simp)
 rcases c with _|⟨x34,c⟩
 ·exact absurd h (by simp)
 rcases c with _|⟨x35,c⟩
 ·exact absurd h (by simp)
 rcases c with _|⟨x36,c⟩
 ·exact absurd h (by simp)
 rcases c with _|⟨x37,c⟩
 ·exact absurd h (by simp)
 rcases c with _|⟨z,c⟩
 ·exact ⟨_,_,_,_,_,_,_,_,_,_,_,_,_,_,_,_,_,_,_,_,_,_,_,_,_,_,_,_,_,_,_,_,_,_,_,_,_,_,rfl⟩
 ·simp only [List.length_cons] at h; omega
theorem len8 {c:List Value} (h:c.length=8):∃ y0 y1 y2 y3 y4 y5 y6 y7,c=y0::y1::y2::y3::y4::y5::y6::y7::[]:=by
 rcases c with _|⟨y0,c⟩
 ·exact absurd h (by simp)
 rcases c with _|⟨y1,c⟩
 ·exact absurd h (by simp)
 rcases c with _|⟨y2,c⟩
 ·exact absurd h (by simp)
 rcases c with _|⟨y3,c⟩
 ·exact absurd h (by simp)
 rcases c with _|⟨y4,c⟩
 ·exact absurd h (by simp)
 rcases c with _|⟨y5,c⟩
 ·exact absurd h (by simp)
 rcases c with _|⟨y6,c⟩
 ·exact absurd h (by simp)
 rcases c with _|⟨y7,c⟩
 ·exact absurd h (by simp)
 rcases c with _|⟨z,c⟩
 ·exact ⟨_,_,_,_,_,_,_,_,rfl⟩
 ·simp only [List.length_cons] at h; omega
theorem start_at {w0:World} {V:Ab.Val} {H:Ab.T Ab.AO} {nx:Nat} {h:Hp} (hH:Ab.RH Tryz.prog V H nx h) (h1:Ab.blockB H 26 95 38 clW=true) (h2:Ab.blockB H 34 117 8 txW=true) :
  ∃ b C t ck x0 x1 x2 x3 x4 x5 x6 x7 x9 x10 x11 x12 x13 x14 x15 x16 x17 x18 x19 x20 x21 x22 co ab st i0 i1 i3 i5 i6 i7 X S,V 26=some (b,C)∧CliAt w0 X b t ck x0 x1 x2 x3 x4 x5 x6 x7 x9 x10 x11 x12 x13 x14 x15 x16 x17 x18 x19 x20 x21 x22 co ab st i0 i1 i3 i5 i6 i7 [] S∧h=X+S:=by
 obtain ⟨b,C,c,R,hV,hh,hl,_,hw,_⟩:=Ab.blockB_ok hH h1
 obtain ⟨t,C2,c2,R2,hV2,hh2,hl2,_,hw2,_⟩:=Ab.blockB_ok hH h2
 obtain ⟨T,rfl⟩:=two_pt (hh.symm.trans hh2) (fun e=>by simp only [Obj.cells.injEq] at e; exact absurd e.2.1 (by decide))
 obtain ⟨x0,x1,x2,x3,x4,x5,x6,x7,x8,x9,x10,x11,x12,x13,x14,x15,x16,x17,x18,x19,x20,x21,x22,x23,x24,x25,x26,x27,x28,x29,x30,x31,x32,x33,x34,x35,x36,x37,rfl⟩:=len38 hl
 obtain ⟨y0,y1,y2,y3,y4,y5,y6,y7,rfl⟩:=len8 hl2
 obtain ⟨u,hu,hr⟩:=hw 8 35 (.i .i64 0) rfl (by omega) (by decide) (by kernel_rfl)
 have hu:x8=u:=by simpa using hu
 subst hu
 obtain ⟨_,rfl⟩:=hr.int
 obtain ⟨u,hu,hr⟩:=hw 23 3 (.ns) rfl (by omega) (by decide) (by kernel_rfl)
 have hu:x23=u:=by simpa using hu
 subst hu
 unfold Ab.R at hr
 subst hr
 obtain ⟨u,hu,hr⟩:=hw 24 8714 (.p 34 0) rfl (by omega) (by decide) (by kernel_rfl)
 have hu:x24=u:=by simpa using hu
 subst hu
 unfold Ab.R at hr
 obtain ⟨b',C',hV',rfl⟩:=hr
 rw [hV2] at hV'
 obtain ⟨rfl,rfl⟩:t=b'∧C2=C':=by simpa using hV'
 obtain ⟨u,hu,hr⟩:=hw 25 1 (.b false) rfl (by omega) (by decide) (by kernel_rfl)
 have hu:x25=u:=by simpa using hu
 subst hu
 unfold Ab.R at hr
 subst hr
 obtain ⟨u,hu,hr⟩:=hw 33 3 (.ns) rfl (by omega) (by decide) (by kernel_rfl)
 have hu:x33=u:=by simpa using hu
 subst hu
 unfold Ab.R at hr
 subst hr
 obtain ⟨u,hu,hr⟩:=hw 34 35 (.i .i64 0) rfl (by omega) (by decide) (by kernel_rfl)
 have hu:x34=u:=by simpa using hu
 subst hu
 obtain ⟨_,rfl⟩:=hr.int
 obtain ⟨u,hu,hr⟩:=hw 35 35 (.i .i64 0) rfl (by omega) (by decide) (by kernel_rfl)
 have hu:x35=u:=by simpa using hu
 subst hu
 obtain ⟨_,rfl⟩:=hr.int
 obtain ⟨u,hu,hr⟩:=hw 36 3 (.ns) rfl (by omega) (by decide) (by kernel_rfl)
 have hu:x36=u:=by simpa using hu
 subst hu
 unfold Ab.R at hr
 subst hr
 obtain ⟨u,hu,hr⟩:=hw 37 1 (.b false) rfl (by omega) (by decide) (by kernel_rfl)
 have hu:x37=u:=by simpa using hu
 subst hu
 unfold Ab.R at hr
 subst hr
 obtain ⟨u,hu,hr⟩:=hw2 2 3 (.ns) rfl (by omega) (by decide) (by kernel_rfl)
 have hu:y2=u:=by simpa using hu
 subst hu
 unfold Ab.R at hr
 subst hr
 obtain ⟨u,hu,hr⟩:=hw2 4 3 (.ns) rfl (by omega) (by decide) (by kernel_rfl)
 have hu:y4=u:=by simpa using hu
 subst hu
 unfold Ab.R at hr
 subst hr
 have hz:IntKind.i64.wrap ((0:Nat):Int)=0:=by decide
 simp only [hz] at hh
 refine ⟨b,C,t,0,x0,x1,x2,x3,x4,x5,x6,x7,x9,x10,x11,x12,x13,x14,x15,x16,x17,x18,x19,x20,x21,x22,x30,x31,x32,y0,y1,y3,y5,y6,y7,T,_,hV,⟨x26,x27,x28,x29,.slice none 0 0,0,OwL.nil T none,rfl⟩,?_⟩
 rw [hh,zV]
 ac_rfl
end
end Sl
end Go.Proofs.YtfahijncpmlhjaaGreat
namespace Go.Proofs.YtfahijncpmlhjaaGreat
open Go Go.RowKit
namespace Sl
set_option maxHeartbeats 16000000
set_option maxRecDepth 4000
set_option synthInstance.maxHeartbeats 400000
set_option synthInstance.maxSize 100000
attribute [local irreducible] Hold HoldL HoldW
theorem reads_spec (w0:World) (v:Value) (l:List Wr) (hv:RdL w0 0 v l) (hl:l.length≤17592186044416) (hd:∀ x∈l,x.data.length≤140737488355328) :
  Spec Tryz.prog w0 3 [v] 0 (fun r h'=>r=.bool true∧0=h'):=by
 obtain ⟨a,c,rfl⟩:=hv.shape
 obtain ⟨v1,H1,n1,e2,H2,n2,v3,H3,n3,v4,H4,n4,g1,g2,g3,g4,g5,g6⟩:=start_ev
 refine zK Tryz.func3 G Tryz.ntmps3 Tryz.results3 G fun fr=>?_
 repeat (first|refine zC ?_|refine zA ?_|refine zB ?_|refine zH G G G ?_|refine L_len G G G ?_)
 refine yA G G (pv_gtr G G) (fun c1=>?_) (fun c1=>?_)
 ·repeat (first|refine zC ?_|refine zA ?_|refine zB ?_|refine zG G ?_)
  refine zS G G (zN G G G) (works_spec w0) ?_
  rintro _ hx rfl
  repeat (first|refine zB ?_|refine zH G G G ?_|refine zJ ?_)
  exact ⟨[_],0,_,⟨rfl,trivial⟩,⟨rfl,rfl⟩,yE.out⟩
 repeat (first|refine zC ?_|refine zA ?_|refine zB ?_|refine zM ?_|refine zF G ?_)
 refine zS G G (zN G G G) (Ab.ev_spec mixed_ok (Ab.tiT_ok _) (Ab.fnT_ok _) (Ab.no_summ _) g1 (V:=fun _=>none) (Ab.RL.nil.2 G) (Ab.RH.none _)) ?_
 rintro u1 h1 ⟨V1,hV1,r1,rh1⟩
 skip
 refine zS G G (zN G G G) (Ab.ev_spec mixed_ok (Ab.tiT_ok _) (Ab.fnT_ok _) (Ab.no_summ _) g2 (Ab.RL.mk r1 (Ab.RL.mk (Ab.R.mkInt' (k:=.i64) (by simp [Ab.pwK]) G) (Ab.RL.nil.2 G))) rh1) ?_
 rintro u2 h2 ⟨V2,hV2,r2,rh2⟩
 unfold Ab.R at r2
 obtain ⟨us,hus,rfl⟩:=r2
 obtain ⟨p,us',rfl,hp,hus'⟩:=Ab.RL.cons.1 hus
 obtain ⟨q,us'',rfl,hq,hus''⟩:=Ab.RL.cons.1 hus'
 obtain rfl:=Ab.RL.nil.1 hus''
 unfold Ab.R at hp
 obtain ⟨b,C,hVb,rfl⟩:=hp
 repeat (first|refine zC ?_|refine zA ?_|refine zB ?_|refine zH G G G ?_)
 refine zS G G (zN G G G) (Ab.ev_spec mixed_ok (Ab.tiT_ok _) (Ab.fnT_ok _) (Ab.no_summ _) g3 (Ab.RL.mk (Ab.R.mkInt' (k:=.i64) (by simp [Ab.pwK]) G) (Ab.RL.mk (Ab.R.mkInt' (k:=.i64) (by simp [Ab.pwK]) G) (Ab.RL.mk (by unfold Ab.R; rfl) (Ab.RL.nil.2 G)))) rh2) ?_
 rintro u3 h3 ⟨V3,hV3,r3,rh3⟩
 skip
 refine zS G G (zN G G G) (Ab.ev_spec mixed_ok (Ab.tiT_ok _) (Ab.fnT_ok _) (Ab.no_summ _) g4 (Ab.RL.mk (by unfold Ab.R; exact ⟨b,C,hV3 _ _ hVb,rfl⟩) (Ab.RL.mk r3 (Ab.RL.nil.2 G))) rh3) ?_
 rintro u4 h4 ⟨V4,hV4,r4,rh4⟩
 obtain ⟨b',C',t,ck,x0,x1,x2,x3,x4,x5,x6,x7,x9,x10,x11,x12,x13,x14,x15,x16,x17,x18,x19,x20,x21,x22,co,ab,st,i0,i1,i3,i5,i6,i7,X,S,hb,hcli,rfl⟩:=start_at (w0:=w0) rh4 g5 g6
 have hbb:=hV4 _ _ (hV3 _ _ hVb)
 rw [hb] at hbb
 obtain ⟨rfl,rfl⟩:b'=b∧C'=C:=by simpa using hbb
 repeat (first|refine zC ?_|refine zO ?_|refine zA ?_|refine zB ?_|refine zH G G G ?_)
 clear g1 g2 g3 g4 g5 g6 hV1 hV2 hV3 hV4 r1 r3 r4 rh1 rh2 rh3 rh4 hus hus' hus'' hVb hb hbb hq
 have h0:Kept8 [] []:=⟨.nil,List.Pairwise.nil,by simp,fun x hx=>by cases hx⟩
 have hds:∀ {k:Nat} (hk:k<l.length),l[k].data.length≤140737488355328:=fun hk=>hd _ (List.getElem_mem hk)
 refine hold_count l.length (fun k g L=>∃ (hvs ws:List Wr) (hw:Value) (hh X S R:Hp),g=[(0,.slice a l.length c),(3,.pointer (some ⟨b',0,none⟩)),(5,hw),(6,.int .i64 k)]∧Kept8 hvs ws∧OwL w0 0 hvs hw hh∧CliAt w0 X b' t ck x0 x1 x2 x3 x4 x5 x6 x7 x9 x10 x11 x12 x13 x14 x15 x16 x17 x18 x19 x20 x21 x22 co ab st i0 i1 i3 i5 i6 i7 ws S∧L=X+S+(hh+fr)+R) _ ⟨[],[],_,0,X,S,0,rfl,h0,OwL.nil 0 none,hcli,by rw [zV]⟩ (by repeat (first|exact zQ _|refine zL G ?_)) ?_
 clear hcli h0
 clear X S
 rintro k g L hk ⟨hvs,ws,hw,hh,X,S,R,rfl,hkp,how,hcli,rfl⟩
 obtain ⟨ah,ch,rfl⟩:=how.shape
 have hh8:hvs.length≤8:=by have:=hkp.perm.length_eq; have:=hkp.le8; omega
 repeat (first|refine zC ?_|refine zA ?_|refine zH G G G ?_|refine L_len G G G ?_)
 refine yA G G (pv_lss G G) (fun c2=>?_) (fun c2=>?_)
 rotate_left
 ·repeat (first|refine zC ?_|refine zX ?_|refine zA ?_|refine zB ?_|refine zF G ?_)
  refine zS G G (zN G G G) (works_spec w0) ?_
  rintro _ hx rfl
  repeat (first|refine zB ?_|refine zH G G G ?_|refine zJ ?_)
  exact ⟨[_],0,_,⟨rfl,trivial⟩,⟨rfl,rfl⟩,yE.out⟩
 have hx:k<l.length:=by omega
 obtain ⟨b2,o2,rfl,e,hr,hat⟩:=hv.at hx
 obtain ⟨da,dc,rfl,hrd⟩:=hr
 have hdk:=hds hx
 generalize hn:l[k].block=n at *
 generalize hdd:l[k].data=d at *
 repeat (first|refine zC ?_|refine zO ?_|refine zA ?_|refine zB ?_|refine zH G G G ?_|refine zT G G G G G ?_|refine L_len G G G ?_|refine zM ?_|refine zG G ?_|refine L_idx G G (by omega) G G ?_|refine L_atf G (by assumption) G G G G ?_)
 refine yA G G (pv_gtr G G) (fun c3=>?_) (fun c3=>?_)
 ·repeat (first|refine zC ?_|refine zA ?_|refine zB ?_|refine zG G ?_)
  refine zS G G (zN G G G) (works_spec w0) ?_
  rintro _ hx rfl
  repeat (first|refine zB ?_|refine zH G G G ?_|refine zJ ?_)
  exact ⟨[_],0,_,⟨rfl,trivial⟩,⟨rfl,rfl⟩,yE.out⟩
 repeat (first|refine zC ?_|refine zB ?_|refine zM ?_|refine zF G ?_)
 refine hold_drawV [11,12,17,19] [0,1,2,3,4,5,6,7,8,9,10,11,12,13,14,15,16,17,18,19,20] 17 8 [.int .i64 0,.int .i64 0,.slice none 0 0] 37 (by kernel_rfl) G (by kernel_rfl) (by kernel_rfl) (by kernel_rfl) ?_
 repeat (first|refine V_of G G (fun _=>rfl) G G G G ?_|refine V_pure G (zU G G G) (fun _=>zU G G G) G G G G ?_|refine V_pure G (pv_indexAddr G G (by omega)) (fun _=>pv_indexAddr G G (by omega)) G G G G ?_|refine V_load G G (fun _=>rfl) (zR G (by assumption) G) G G G G ?_)
 refine V_call G G G G G (zN G G G) (fun _=>zN G G G) (callV_spec w0 3 n da d.length dc) (Kept.all _) G G G G ?_
 rintro _ _ ⟨rfl,rfl⟩
 refine ⟨(by repeat (first|exact trivial|exact zD G (zP G)|exact zI G G G|exact zR G (by assumption) G|exact zE G (by assumption) G|exact zE G (by assumption) (by assumption)|refine ⟨?_,?_⟩)),?_⟩
 skip
 refine V_call G G G G G (zN G G G) (fun _=>zN G G G) (callW_spec w0 X b' t ck x0 x1 x2 x3 x4 x5 x6 x7 x9 x10 x11 x12 x13 x14 x15 x16 x17 x18 x19 x20 x21 x22 co ab st i0 i1 i3 i5 i6 i7 ws n d da dc S hcli hkp.rises hkp.le8 (hrd.mono (hzero_add X).symm) (by omega)) (Kept.all _) G G G G ?_
 rintro _ _ ⟨rfl,E,S2,hcli2,rfl⟩
 refine ⟨(by repeat (first|exact trivial|exact zD G (zP G)|exact zI G G G|exact zR G (by assumption) G|exact zE G (by assumption) G|exact zE G (by assumption) (by assumption)|refine ⟨?_,?_⟩)),?_⟩
 repeat (refine V_of G G (fun _=>rfl) G G G G ?_)
 refine V_now G G G G (fun b8=>?_)
 repeat (refine yC G G G G G ?_)
 refine W_eff G G G G (ev_storeA (vs:=[_,_,_]) G G G G (c:=[_,_,_]) (Nat.le_of_ble_eq_true G) (c':=[_,_,_]) G) (Kept.all _) ?_
 rintro _ _ rfl
 refine ⟨(by repeat (first|exact trivial|exact zD G (zP G)|exact zI G G G|exact zR G (by assumption) G|exact zE G (by assumption) G|exact zE G (by assumption) (by assumption)|refine ⟨?_,?_⟩)),?_⟩
 repeat (first|refine yD ?_|refine yC G G G G G ?_)
 repeat (first|refine zC ?_|refine zO ?_|refine zA ?_|refine zB ?_|refine zH G G G ?_)
 refine hold_count hvs.length (fun j g L=>∃ (kk:Int) (R2:Hp),g=[(0,.slice (some ⟨b2,o2,none⟩) l.length c),(3,.pointer (some ⟨b',0,none⟩)),(5,.slice ah hvs.length ch),(6,.int .i64 k),(7,.slice none 0 0),(8,.pointer (some ⟨b8,0,none⟩)),(9,.bool true),(10,.int .i64 kk),(11,.int .i64 j)] ∧
  ((kk=-1∧∀ x∈hvs.take j,x.block≠n)∨∃ (m:Nat) (hm:m<hvs.length),kk=m∧hvs[m].block=n) ∧
  L=pt b8 (.cells [.int .i64 (writeF ws n d).2,.int .i64 0,.slice none 0 0].toArray 37 (0,0))+(E+X+S2+(hh+fr))+R2) _ ⟨-1,_,rfl,.inl ⟨rfl,by simp⟩,yE.out⟩ (by repeat (first|exact zQ _|refine zL G ?_)) ?_
 rintro j g L hj ⟨kk,R2,rfl,hkk,rfl⟩
 repeat (first|refine zC ?_|refine zA ?_|refine zH G G G ?_|refine L_len G G G ?_)
 refine yA G G (pv_lss G G) (fun c4=>?_) (fun c4=>?_)
 ·have hxj:j<hvs.length:=by omega
  have hrv:RdL w0 hh (.slice ah hvs.length ch) hvs:=how.rd (R:=0)
  obtain ⟨b4,o4,rfl,e4,hr4,hat4⟩:=hrv.at hxj
  obtain ⟨a5,c5,rfl,hr5⟩:=hr4
  repeat (first|refine zC ?_|refine zO ?_|refine zB ?_|refine zM ?_|refine zG G ?_)
  refine zW [] [0,1,2,3,4,5,6,7,8,9,10] (by kernel_rfl) G (by kernel_rfl) (by kernel_rfl) ?_
  repeat (first|refine yC G G G G G ?_|refine zY G G G G (zU G G G) ?_|refine W_idx G G G (by omega) G G G ?_|refine W_atf G G (by assumption) G G G G G ?_)
  refine W_dec G G G G (pv_eql G G) (fun c5'=>?_) (fun c5'=>?_)
  ·repeat (refine yD ?_)
   repeat (first|refine zA ?_|refine zB ?_|refine zH G G G ?_|refine zG G ?_|refine L_add G G (by omega) (by omega) G G ?_)
   exact ⟨hxj,_,(by repeat (first|exact zQ _|refine zL G ?_)),_,_,rfl,.inr ⟨j,hxj,rfl,c5'⟩,yE.out⟩
  ·repeat (refine yD ?_)
   repeat (first|refine zA ?_|refine zB ?_|refine zH G G G ?_|refine zM ?_|refine zF G ?_|refine L_add G G (by omega) (by omega) G G ?_)
   refine ⟨hxj,_,(by repeat (first|exact zQ _|refine zL G ?_)),kk,_,rfl,?_,yE.out⟩
   rcases hkk with ⟨h1,h2⟩|h1
   ·refine .inl ⟨h1,fun x hx=>?_⟩
    rw [List.take_succ_eq_append_getElem hxj,List.mem_append,List.mem_singleton] at hx
    rcases hx with hx|rfl
    ·exact h2 x hx
    ·exact c5'
   ·exact .inr h1
 have hjl:j=hvs.length:=by omega
 subst hjl
 rw [List.take_length] at hkk
 refine zB ?_
 repeat (first|refine zC ?_|refine zF G ?_|refine zX ?_)
 refine zA ?_
 refine zH G G G ?_
 refine zB ?_
 repeat refine zC ?_
 refine hold_join (fun g' L'=>∃ R3:Hp,Sub g' [(0,.slice (some ⟨b2,o2,none⟩) l.length c),(3,.pointer (some ⟨b',0,none⟩)),(5,.slice ah hvs.length ch),(6,.int .i64 k),(7,.slice none 0 0),(8,.pointer (some ⟨b8,0,none⟩)),(9,.bool true),(10,.int .i64 kk),(12,.int .i64 0),(91,.bool (decide (n<0∨64≤n)))] ∧
  L'=pt b8 (.cells [.int .i64 (writeF ws n d).2,.int .i64 0,.slice none 0 0].toArray 37 (0,0))+(E+X+S2+(hh+fr))+R3) ?_ ?_
 ·repeat (first|refine zA ?_|refine zH G G G ?_|refine zT G G G G G ?_|refine L_idx G G (by omega) G G ?_|refine L_atf G (by assumption) G G G G ?_)
  refine yA G G (pv_lss G G) (fun c5=>?_) (fun c5=>?_)
  ·rw [decide_eq_true (show n<0∨64≤n from .inl c5)]
   repeat (first|refine zB ?_|refine zH G G G ?_|refine L_skip G G ?_)
   exact ⟨_,(by repeat (first|exact zQ _|refine zL G ?_)),yE.out⟩
  ·repeat (first|refine zH G G G ?_|refine zT G G G G G ?_|refine L_idx G G (by omega) G G ?_|refine L_atf G (by assumption) G G G G ?_)
   refine yA G G (pv_geq G G) (fun c6=>?_) (fun c6=>?_)
   ·rw [decide_eq_true (show n<0∨64≤n from .inr c6)]
    repeat (first|refine zB ?_|refine zH G G G ?_)
    exact ⟨_,(by repeat (first|exact zQ _|refine zL G ?_)),yE.out⟩
   ·rw [decide_eq_false (show ¬ (n<0∨64≤n) by omega)]
    repeat (first|refine zB ?_|refine zH G G G ?_)
    exact ⟨_,(by repeat (first|exact zQ _|refine zL G ?_)),yE.out⟩
 rintro g' _ ⟨R3,hsub,rfl⟩
 refine hold_env hsub ?_
 clear hsub g'
 have hno:hvs.any (isW n)=decide (¬ kk<0):=by
  rcases hkk with ⟨h1,h2⟩|⟨m,hm,h1,h2⟩
  ·rw [decide_eq_false (by omega),List.any_eq_false]
   intro x hx hx2
   exact h2 x hx (by simpa [isW] using hx2)
  ·rw [decide_eq_true (by omega),List.any_eq_true]
   exact ⟨_,List.getElem_mem hm,by simpa [isW] using h2⟩
 refine hold_join (fun g' L'=>∃ R4:Hp,Sub g' [(0,.slice (some ⟨b2,o2,none⟩) l.length c),(3,.pointer (some ⟨b',0,none⟩)),(5,.slice ah hvs.length ch),(6,.int .i64 k),(7,.slice none 0 0),(8,.pointer (some ⟨b8,0,none⟩)),(9,.bool true),(10,.int .i64 kk),(12,.int .i64 (wantW hvs n d))] ∧
  L'=pt b8 (.cells [.int .i64 (writeF ws n d).2,.int .i64 0,.slice none 0 0].toArray 37 (0,0))+(E+X+S2+(hh+fr))+R4) ?_ ?_
 ·refine hold_cond_d G (fun c5=>?_) (fun c5=>?_)
  ·have hw:wantW hvs n d=20:=by unfold wantW; rw [if_pos c5]
   rw [hw]
   repeat (first|refine zA ?_|refine zB ?_|refine zH G G G ?_)
   exact ⟨_,(by repeat (first|exact zQ _|refine zL G ?_)),yE.out⟩
  ·repeat (first|refine zC ?_|refine zA ?_|refine zH G G G ?_|refine zT G G G G G ?_|refine L_len G G G ?_|refine L_idx G G (by omega) G G ?_|refine L_atf G (by assumption) G G G G ?_)
   refine yA G G (pv_neq G G) (fun c6=>?_) (fun c6=>?_)
   ·have hw:wantW hvs n d=21:=by unfold wantW; rw [if_neg c5,if_pos (by omega)]
    rw [hw]
    repeat (first|refine zA ?_|refine zB ?_|refine zH G G G ?_|refine zG G ?_)
    exact ⟨_,(by repeat (first|exact zQ _|refine zL G ?_)),yE.out⟩
   ·have hd4:¬ d.length≠4:=by omega
    repeat (first|refine zC ?_|refine zA ?_|refine zB ?_|refine zH G G G ?_|refine zF G ?_)
    refine yA G G (pv_lss G G) (fun c7=>?_) (fun c7=>?_)
    ·repeat (first|refine zH G G G ?_|refine L_len G G G ?_)
     refine yA G G (pv_eql G G) (fun c8=>?_) (fun c8=>?_)
     ·have hw:wantW hvs n d=17:=by unfold wantW; rw [if_neg c5,if_neg hd4,if_pos ⟨by rw [hno,decide_eq_false (by omega)],by omega⟩]
      rw [hw]
      repeat (first|refine zA ?_|refine zB ?_|refine zH G G G ?_|refine zG G ?_)
      exact ⟨_,(by repeat (first|exact zQ _|refine zL G ?_)),yE.out⟩
     ·have hw:wantW hvs n d=0:=by unfold wantW; rw [if_neg c5,if_neg hd4,if_neg (fun hx=>by have:=hx.2; omega)]
      rw [hw]
      repeat (first|refine zB ?_|refine zH G G G ?_|refine zM ?_|refine zF G ?_)
      exact ⟨_,(by repeat (first|exact zQ _|refine zL G ?_)),yE.out⟩
    ·have hw:wantW hvs n d=0:=by unfold wantW; rw [if_neg c5,if_neg hd4,if_neg (fun hx=>by have h1:=hx.1; rw [hno,decide_eq_true (by omega)] at h1; cases h1)]
     rw [hw]
     repeat (first|refine zB ?_|refine zH G G G ?_|refine L_skip G G ?_|refine zM ?_|refine zF G ?_)
     exact ⟨_,(by repeat (first|exact zQ _|refine zL G ?_)),yE.out⟩
 rintro g' _ ⟨R4,hsub,rfl⟩
 refine hold_env hsub ?_
 clear hsub g'
 obtain ⟨w1,w2,w3⟩:=hkp.want n d
 rw [w1]
 repeat (first|refine zC ?_|refine zA ?_|refine zH G G G ?_|refine L_len G G G ?_)
 refine L_no G G (pv_neq G G) (by decide) ?_
 repeat (first|refine zH G G G ?_|refine zT G G G G G ?_|refine L_ld G G G G G ?_)
 refine L_no G G (pv_neq G G) (by simp) ?_
 repeat (first|refine zH G G G ?_|refine zB ?_|refine zC ?_|refine zF G ?_|refine zM ?_)
 refine hold_join (fun g' L'=>∃ R5:Hp,Sub g' [(0,.slice (some ⟨b2,o2,none⟩) l.length c),(3,.pointer (some ⟨b',0,none⟩)),(5,.slice ah hvs.length ch),(6,.int .i64 k),(10,.int .i64 kk),(12,.int .i64 (wantW hvs n d)),(124,.bool (decide (wantW hvs n d=0∧0≤kk)))]∧L'=E+X+S2+(hh+fr)+R5) ?_ ?_
 ·repeat (first|refine zA ?_|refine zH G G G ?_)
  refine yA G G (pv_eql G G) (fun c9=>?_) (fun c9=>?_)
  ·repeat (refine zH G G G ?_)
   refine yA G G (pv_geq G G) (fun c10=>?_) (fun c10=>?_)
   ·rw [decide_eq_true (show wantW hvs n d=0∧0≤kk from ⟨c9,c10⟩)]
    repeat (first|refine zB ?_|refine zH G G G ?_)
    exact ⟨_,(by repeat (first|exact zQ _|refine zL G ?_)),yE.out⟩
   ·rw [decide_eq_false (show ¬ (wantW hvs n d=0∧0≤kk) from fun hx=>c10 hx.2)]
    repeat (first|refine zB ?_|refine zH G G G ?_)
    exact ⟨_,(by repeat (first|exact zQ _|refine zL G ?_)),yE.out⟩
  ·rw [decide_eq_false (show ¬ (wantW hvs n d=0∧0≤kk) from fun hx=>c9 hx.1)]
   repeat (first|refine zB ?_|refine zH G G G ?_|refine L_skip G G ?_)
   exact ⟨_,(by repeat (first|exact zQ _|refine zL G ?_)),yE.out⟩
 rintro g' _ ⟨R5,hsub,rfl⟩
 refine hold_env hsub ?_
 clear hsub g'
 refine hold_join (fun g' L'=>∃ (hvs' ws':List Wr) (hw':Value) (hh' R6:Hp),Sub g' [(0,.slice (some ⟨b2,o2,none⟩) l.length c),(3,.pointer (some ⟨b',0,none⟩)),(5,hw'),(6,.int .i64 k)]∧Kept8 hvs' ws'∧OwL w0 0 hvs' hw' hh'∧CliAt w0 (E+X) b' t ck x0 x1 x2 x3 x4 x5 x6 x7 x9 x10 x11 x12 x13 x14 x15 x16 x17 x18 x19 x20 x21 x22 co ab st i0 i1 i3 i5 i6 i7 ws' S2∧L'=E+X+S2+(hh'+fr)+R6) ?_ ?_
 ·have hnew:Rep.rd w0 0 (⟨n,d⟩:Wr) [.int .i64 n,.slice da d.length dc]:=⟨da,dc,rfl,hrd⟩
  refine hold_cond_d G (fun c5=>?_) (fun c5=>?_)
  ·obtain ⟨s1,s2,s3,s4,s5⟩:=w3 c5.1
   rw [s1] at hcli2
   rcases hkk with ⟨h1,h2⟩|⟨m,hm,rfl,hbm⟩
   ·omega
   obtain ⟨es,hrow,hall⟩:=how
   have hes:=hall.length
   have hxe:m<es.length:=by omega
   rcases hrow with ⟨hr1,⟨ad,_,hnil,_⟩|⟨bk,cap,spare,hv,rfl,hr2,hr3,hr4⟩⟩
   ·rw [hnil] at hxe; exact absurd hxe (by simp)
   simp only [Value.slice.injEq] at hv
   obtain ⟨rfl,_,rfl⟩:=hv
   have hr1:∀ x∈es,x.length=2:=hr1
   have hr4:spare.length=(ch - es.length)*2:=hr4
   repeat (first|refine zA ?_|refine zH G G G ?_|refine L_idx G G (by omega) G G ?_|refine L_atA G (by assumption) G G G G ?_)
   refine L_eff G G (ev_storeA (vs:=[_,_]) G G G G (c:=es.flatten++spare) (by have hfl:=length_flat hr1; simp only [List.length_append,hfl,List.length_cons,List.length_nil]; omega) (flat_setW hr1 G hxe)) ?_
   rintro _ _ rfl
   repeat (refine zB ?_)
   have hset:OwL w0 0 (hvs.set m ⟨n,d⟩) (.slice (some ⟨bk,0,none⟩) hvs.length ch) (pt bk (.cells ((es.set m [.int .i64 n,.slice da d.length dc]).flatten++spare).toArray 44 (0,0))):=by
    refine ⟨es.set m [.int .i64 n,.slice da d.length dc],?_,hall.set m hnew⟩
    have:=isRow_block (E:=44) (b:=bk) (cap:=ch) (spare:=spare) (size:=2) (xs:=es.set m [.int .i64 n,.slice da d.length dc]) (fun x hx=>(List.mem_or_eq_of_mem_set hx).elim (hr1 x) (fun e=>by rw [e]; rfl)) (by simpa using hr2) hr3 (by simpa using hr4)
    rwa [List.length_set,hes] at this
   exact ⟨_,_,_,_,_,(by repeat (first|exact zQ _|refine zL G ?_)),hkp.set hm hbm ⟨s2,s3⟩ s4,hset,hcli2,yE.out⟩
  ·repeat (first|refine zC ?_|refine zA ?_|refine zH G G G ?_)
   refine yA G G (pv_eql G G) (fun c6=>?_) (fun c6=>?_)
   ·obtain ⟨s1,s2,s3,s4,s5⟩:=w3 c6
    rw [s1] at hcli2
    have hlt:kk<0:=by
     by_cases hq:kk<0
     ·exact hq
     ·exact absurd ⟨c6,by omega⟩ c5
    have hne:∀ x∈hvs,x.block≠n:=by
     rcases hkk with ⟨h1,h2⟩|⟨m,hm,h1,h2⟩
     ·exact h2
     ·omega
    have hl8:hvs.length<8:=by
     rcases s5 with h|h
     ·rw [hno,decide_eq_false (by omega)] at h; cases h
     ·exact h
    repeat (first|refine zA ?_|refine zB ?_|refine zH G G G ?_|refine zG G ?_|refine L_idx G G (by omega) G G ?_|refine L_atA G (by assumption) G G G G ?_|refine L_bs (vs:=[_]) (cells:=[_,_]) G G G G G G (fun _=>?_))
    refine L_eff G G (ev_appendL (X:=0) (ns:=[(⟨n,d⟩:Wr)]) (h:=hh) G G how (rd_one G) (All2.one hnew) G G G G G (by simp only [List.length_singleton]; omega)) ?_
    rintro v5 _ ⟨h5,ho5,rfl⟩
    repeat (first|refine zB ?_|refine zH G G G ?_)
    exact ⟨_,_,_,h5,_,(by repeat (first|exact zQ _|refine zL G ?_)),hkp.app hne hl8 ⟨s2,s3⟩ s4,ho5,hcli2,yE.out⟩
   ·rw [w2 c6] at hcli2
    repeat (first|refine zB ?_|refine zM ?_|refine zF G ?_)
    exact ⟨_,_,_,hh,_,(by repeat (first|exact zQ _|refine zL G ?_)),hkp,how,hcli2,yE.out⟩
 rintro g' _ ⟨hvs',ws',hw',hh',R6,hsub,hkp',how',hcli3,rfl⟩
 refine hold_env hsub ?_
 clear hsub g' hkp how hcli2 hcli w1 w2 w3 hno hkk hh8
 clear kk
 obtain ⟨ah',ch',rfl⟩:=how'.shape
 have hh8:hvs'.length≤8:=by have:=hkp'.perm.length_eq; have:=hkp'.le8; omega
 repeat (first|refine zC ?_|refine zO ?_|refine zA ?_|refine zB ?_|refine zH G G G ?_)
 refine hold_count hvs'.length (fun j g L=>∃ (S3 R7:Hp),g=[(0,.slice (some ⟨b2,o2,none⟩) l.length c),(3,.pointer (some ⟨b',0,none⟩)),(5,.slice ah' hvs'.length ch'),(6,.int .i64 k),(13,.int .i64 j)]∧CliAt w0 (E+X) b' t ck x0 x1 x2 x3 x4 x5 x6 x7 x9 x10 x11 x12 x13 x14 x15 x16 x17 x18 x19 x20 x21 x22 co ab st i0 i1 i3 i5 i6 i7 ws' S3∧L=E+X+S3+(hh'+fr)+R7) _ ⟨S2,_,rfl,hcli3,yE.out⟩ (by repeat (first|exact zQ _|refine zL G ?_)) ?_
 clear hcli3
 rintro j g L hj ⟨S3,R7,rfl,hcli4,rfl⟩
 repeat (first|refine zC ?_|refine zA ?_|refine zH G G G ?_|refine L_len G G G ?_)
 refine yA G G (pv_lss G G) (fun c4=>?_) (fun c4=>?_)
 ·have hxj:j<hvs'.length:=by omega
  have hrv:RdL w0 hh' (.slice ah' hvs'.length ch') hvs':=how'.rd (R:=0)
  obtain ⟨b4,o4,rfl,e4,hr4,hat4⟩:=hrv.at hxj
  obtain ⟨a5,c5,rfl,hr5⟩:=hr4
  obtain ⟨kq,hkq,he,hisw,hfst⟩:=hkp'.find (List.getElem_mem hxj)
  have hej:=hkp'.each _ (List.getElem_mem hxj)
  repeat (first|refine zC ?_|refine zO ?_|refine zA ?_|refine zB ?_|refine zH G G G ?_|refine zT G G G G G ?_|refine zM ?_|refine zG G ?_|refine L_idx G G (by omega) G G ?_|refine L_atf G (by assumption) G G G G ?_)
  refine zS G G (zN G G G) (callV_spec w0 2 hvs'[j].block none 0 0) ?_
  rintro _ _ ⟨rfl,rfl⟩
  skip
  refine zS G G (zN G G G) (callR_spec w0 (E+X) b' t ck x0 x1 x2 x3 x4 x5 x6 x7 x9 x10 x11 x12 x13 x14 x15 x16 x17 x18 x19 x20 x21 x22 co ab st i0 i1 i3 i5 i6 i7 ws' hvs'[j].block S3 hcli4 hkp'.le8 kq hkq hisw hfst ⟨hej.1,hej.2.1⟩ (by rw [he]; omega)) ?_
  rintro _ _ ⟨vd,E5,S4,rfl,hvd,hcli5,rfl⟩
  rw [he] at hvd
  obtain ⟨a6,c6,rfl⟩:=hvd.shape
  repeat (first|refine zC ?_|refine zB ?_|refine zH G G G ?_|refine L_stA G (vs:=[_,_,_]) G G G G (c':=[_,_,_]) G G ?_|refine L_alloc (c:=[_,_,_]) G G G (fun _=>?_))
  rename_i b9
  refine zW [20] [0,1,2,3,4,5,6,7,8,9,10,11,12,13,14,15,16,17,18,19,20,21,22] (by kernel_rfl) G (by kernel_rfl) (by kernel_rfl) ?_
  repeat (first|refine yC G G G G G ?_|refine zY G G G G (pv_len G) ?_)
  refine W_no G G G G (pv_neq G G) (by simp) ?_
  repeat (first|refine yC G G G G G ?_|refine zY G G G G (zU G G G) ?_|refine W_load G G G G (zZ G) (zD G (zP G)) ?_)
  refine W_no G G G G (pv_neq G G) (by simp) ?_
  repeat (first|refine yC G G G G G ?_|refine zY G G G G (zU G G G) ?_|refine W_load G G G G (zZ G) (zD G (zP G)) ?_|refine W_idx G G G (by omega) G G G ?_|refine W_atf G G (by assumption) G G G G G ?_)
  refine W_call G G G G (zN G G G) (sameB_spec w0 (E5+hh') _ _ hvs'[j].data hvs'[j].data (hvd.rd (R:=hh')) (hr5.mono (hadd_comm _ _)) (by omega) (by omega)) (Kept.all _) ?_
  rintro _ _ ⟨rfl,rfl⟩
  rw [decide_eq_true G]
  refine ⟨(by repeat (first|exact trivial|exact zD G (zP G)|exact zI G G G|exact zR G (by assumption) G|exact zE G (by assumption) G|exact zE G (by assumption) (by assumption)|refine ⟨?_,?_⟩)),?_⟩
  repeat (first|refine yD ?_|refine yC G G G G G ?_)
  repeat (first|refine zA ?_|refine zB ?_|refine zH G G G ?_|refine zM ?_|refine zF G ?_|refine L_add G G (by omega) (by omega) G G ?_)
  exact ⟨hxj,_,(by repeat (first|exact zQ _|refine zL G ?_)),S4,_,rfl,hcli5,yE.out⟩
 repeat (first|refine zX ?_|refine zA ?_|refine zB ?_|refine zH G G G ?_|refine zF G ?_|refine L_add G G (by omega) (by omega) G G ?_)
 exact ⟨hx,_,(by repeat (first|exact zQ _|refine zL G ?_)),hvs',ws',_,hh',E+X,S3,R7,rfl,hkp',how',hcli4,rfl⟩
end Sl
end Go.Proofs.YtfahijncpmlhjaaGreat
