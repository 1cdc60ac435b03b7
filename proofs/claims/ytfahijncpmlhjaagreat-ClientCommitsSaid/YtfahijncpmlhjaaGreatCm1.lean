/-
  What clientCommits.proved hangs on, part 1 of 7: Sl, Ops, Vals, Tab, Effs, LKit, Eff2, Nest, Eq, LkA, LkB, LkC, Rep, Go, ShNum, ClT, ClA, ClP, Open.
-/
import Derived.WalkKit
import Derived.Orders
import Derived.OrdersHeld
import Derived.WalkSpells
import Derived.Test.YtfahijncpmlhjaaGreatProg
import Derived.Laws.StructEq
import Derived.ChangeKeysEq
import Derived.Laws.CopyRow
import Derived.Lib.AppendZerosOnto
import Derived.Lib.Overlaps
import Derived.Deep.Slices
import Derived.Deep.Strs
import Derived.Lib.SmallJoins
import Derived.ChangeArms
import Derived.SizedLaws
set_option linter.unusedVariables false
set_option linter.unusedSimpArgs false
namespace Go.Proofs.YtfahijncpmlhjaaGreat
/-- rfl, by a short name. -/
theorem M.{u} {α : Sort u} {a : α} : a = a := rfl
end Go.Proofs.YtfahijncpmlhjaaGreat
namespace Go.Proofs.YtfahijncpmlhjaaGreat
open Go Go.RowKit
namespace Sl
def Hp :Type:=Quotient (List.isSetoid (Nat × Obj))
def Hp.mk (l:List (Nat × Obj)):Hp:=Quotient.mk _ l
def pt (b:Nat) (o:Obj):Hp:=Hp.mk [(b,o)]
def Hp.add (a b:Hp):Hp :=
 Quotient.liftOn₂ a b (fun x y=>Hp.mk (x++y)) (fun _ _ _ _ h1 h2=>Quotient.sound (List.Perm.append h1 h2))
instance :Add Hp:=⟨Hp.add⟩
instance :Zero Hp:=⟨Hp.mk []⟩
theorem mk_add (x y:List (Nat × Obj)):Hp.mk x+Hp.mk y=Hp.mk (x++y):=rfl
theorem Hp.ind {p:Hp→Prop} (h:∀ l,p (Hp.mk l)) (a:Hp):p a:=Quotient.ind h a
theorem yZ (a b c:Hp):a+b+c=a+(b+c):=by
 induction a using Hp.ind; induction b using Hp.ind; induction c using Hp.ind
 simp only [mk_add,List.append_assoc]
theorem uQ (a b:Hp):a+b=b+a:=by
 induction a using Hp.ind; induction b using Hp.ind
 simp only [mk_add]
 exact Quotient.sound List.perm_append_comm
theorem qW (a:Hp):0+a=a:=by
 induction a using Hp.ind
 show Hp.mk []+_=_
 rw [mk_add]; rfl
theorem yA (a:Hp):a+0=a:=by rw [uQ,qW]
instance :Std.Associative (α:=Hp) (·+·):=⟨yZ⟩
instance :Std.Commutative (α:=Hp) (·+·):=⟨uQ⟩
instance :Std.LawfulIdentity (α:=Hp) (·+·) 0:={ left_id:=qW,right_id:=yA }
def SatL (B:Nat) (w:World) (l:List (Nat × Obj)):Prop :=
 (l.map (·.1)).Nodup∧∀ p∈l,B≤p.1∧w.heap[p.1]?=some p.2
theorem SatL.perm {B:Nat} {w:World} {l m:List (Nat × Obj)} (h:l.Perm m) (s:SatL B w l):SatL B w m :=
 ⟨(h.map _).nodup s.1,fun p hp=>s.2 p (h.mem_iff.2 hp)⟩
def Sat (B:Nat) (w:World) (h:Hp):Prop :=
 Quotient.liftOn h (SatL B w) (fun _ _ e=>propext ⟨SatL.perm e,SatL.perm e.symm⟩)
theorem sat_mk {B:Nat} {w:World} {l:List (Nat × Obj)}:Sat B w (Hp.mk l)↔SatL B w l:=Iff.rfl
theorem Sat.left {B:Nat} {w:World} {a b:Hp}:Sat B w (a+b)→Sat B w a:=by
 induction a using Hp.ind; induction b using Hp.ind
 rw [mk_add,sat_mk,sat_mk]
 rintro ⟨h1,h2⟩
 refine ⟨?_,fun p hp=>h2 p (List.mem_append_left _ hp)⟩
 rw [List.map_append] at h1
 exact (List.nodup_append.1 h1).1
theorem Sat.right {B:Nat} {w:World} {a b:Hp} (h:Sat B w (a+b)):Sat B w b:=by
 rw [uQ] at h; exact h.left
theorem Sat.pt {B:Nat} {w:World} {b:Nat} {o:Obj} (h:Sat B w (pt b o)):B≤b∧w.heap[b]?=some o :=
 h.2 (b,o) (by simp)
theorem Sat.ne {B:Nat} {w:World} {b b':Nat} {o o':Obj} (h:Sat B w (Sl.pt b o+Sl.pt b' o')):b≠b':=by
 have:=h.1; simp at this; exact this
theorem Sat.zero (B:Nat) (w:World):Sat B w 0:=⟨by simp,by simp⟩
theorem Sat.mono {B:Nat} {w w':World} {a:Hp} (h:Sat B w a) (hk:∀ k,B≤k→k<w.heap.size→w'.heap[k]?=w.heap[k]?):Sat B w' a:=by
 revert h; induction a using Hp.ind
 rintro ⟨h1,h2⟩
 exact ⟨h1,fun p hp=>⟨(h2 p hp).1,by rw [hk p.1 (h2 p hp).1 (Array.getElem?_eq_some_iff.1 (h2 p hp).2).1]; exact (h2 p hp).2⟩⟩
theorem Sat.set {B:Nat} {w w':World} {b:Nat} {o o':Obj} {R:Hp} (h:Sat B w (Sl.pt b o+R)) (hb:w'.heap[b]?=some o')
  (hk:∀ k,k≠b→k<w.heap.size→w'.heap[k]?=w.heap[k]?):Sat B w' (Sl.pt b o'+R):=by
 revert h; induction R using Hp.ind
 rintro ⟨h1,h2⟩
 simp only [List.cons_append,List.nil_append,List.map_cons,List.nodup_cons] at h1
 refine ⟨by simpa using h1,fun p hp=>?_⟩
 simp only [List.cons_append,List.nil_append,List.mem_cons] at hp
 rcases hp with rfl|hp
 ·exact ⟨(h2 (b,o) (by simp)).1,hb⟩
 ·have hp':=h2 p (by simp [hp])
  have hne:p.1≠b:=fun e=>h1.1 (by rw [← e]; exact List.mem_map.2 ⟨p,hp,rfl⟩)
  exact ⟨hp'.1,by rw [hk p.1 hne (Array.getElem?_eq_some_iff.1 hp'.2).1]; exact hp'.2⟩
theorem Sat.new {B:Nat} {w w':World} {o:Obj} {R:Hp} (h:Sat B w R) (hB:B≤w.heap.size) (hb:w'.heap[w.heap.size]?=some o)
  (hk:∀ k,k<w.heap.size→w'.heap[k]?=w.heap[k]?):Sat B w' (Sl.pt w.heap.size o+R):=by
 revert h; induction R using Hp.ind
 rintro ⟨h1,h2⟩
 refine ⟨?_,fun p hp=>?_⟩
 ·simp only [List.cons_append,List.nil_append,List.map_cons,List.nodup_cons]
  refine ⟨fun hm=>?_,h1⟩
  obtain ⟨p,hp,e⟩:=List.mem_map.1 hm
  have:=(Array.getElem?_eq_some_iff.1 (h2 p hp).2).1
  omega
 ·simp only [List.cons_append,List.nil_append,List.mem_cons] at hp
  rcases hp with rfl|hp
  ·exact ⟨hB,hb⟩
  ·have hp':=h2 p hp
   exact ⟨hp'.1,by rw [hk p.1 (Array.getElem?_eq_some_iff.1 hp'.2).1]; exact hp'.2⟩
structure St (w0 w:World) (L:Hp):Prop where
 below:Below w0.heap.size w0 w
 sat:Sat w0.heap.size w L
theorem St.left {w0 w:World} {a b:Hp} (h:St w0 w (a+b)):St w0 w a:=⟨h.below,h.sat.left⟩
theorem St.right {w0 w:World} {a b:Hp} (h:St w0 w (a+b)):St w0 w b:=⟨h.below,h.sat.right⟩
theorem St.drew {w0 w:World} {a:Hp} (h:St w0 w a):St w0 w.drew a:=⟨h.below.drew,h.sat.mono fun _ _ _=>rfl⟩
theorem St.start (w0:World):St w0 w0 0:=⟨Below.refl _ _,Sat.zero _ _⟩
theorem St.alloc {w0 w:World} {L:Hp} (h:St w0 w L) (o:Obj):St w0 (w.alloc o) (pt w.heap.size o+L) :=
 ⟨h.below.alloc h.below.size o,h.sat.new h.below.size (heap_alloc_new w o) fun _ hk=>heap_alloc_old w o hk⟩
theorem St.set {w0 w w':World} {b:Nat} {o o':Obj} {R:Hp} (h:St w0 w (pt b o+R)) (hb:w'.heap[b]?=some o')
  (hk:∀ k,k≠b→w'.heap[k]?=w.heap[k]?) (hs:w.heap.size≤w'.heap.size) (ho:w'.os=w.os) (ht:w'.tape=w.tape) (hp:w'.output=w.output):St w0 w' (pt b o'+R) :=
 ⟨h.below.trans ⟨ho,ht,hp,hs,fun k hk'=>hk k (by have:=h.sat.left.pt.1; omega)⟩,h.sat.set hb fun k hn _=>hk k hn⟩
abbrev Env :=List (Nat × Value)
def look :Env→Nat→Option Value
 | [],_=>none
 | (d,v)::g,t=>if d=t then some v else look g t
def ev (g:Env):Operand→Option Value
 | .tmp t=>look g t
 | .const v=>some v
 | .global k=>some (.pointer (some ⟨k,0,none⟩))
 | .func f=>some (.func (.func f) #[] #[])
def evs (g:Env):List Operand→Option (List Value)
 | []=>some []
 | x::l=>match ev g x,evs g l with
  | some v,some vs=>some (v::vs)
  | _,_=>none
structure Fits (n:Nat) (a:Act) (g:Env):Prop where
 size:a.tmps.size=n
 nodefer:a.defers=[]
 get:∀ t v,look g t=some v→a.tmps[t]?=some v
theorem Fits.ev {n:Nat} {a:Act} {g:Env} (h:Fits n a g) {x:Operand} {v:Value} (hx:ev g x=some v):a.eval x=v:=by
 cases x with
 | tmp t=>simp only [Sl.ev] at hx; have:=h.get t v hx; simp [Act.eval,Array.getD_eq_getD_getElem?,this]
 | const c=>simpa [Sl.ev,Act.eval] using hx
 | global k=>simpa [Sl.ev,Act.eval] using hx
 | func f=>simpa [Sl.ev,Act.eval] using hx
theorem Fits.evs {n:Nat} {a:Act} {g:Env} (h:Fits n a g):∀ {xs:List Operand} {vs:List Value},Sl.evs g xs=some vs→xs.map a.eval=vs:=by
 intro xs
 induction xs with
 | nil=>intro vs hv; simpa [Sl.evs] using hv
 | cons x xs ih =>
  intro vs hv
  simp only [Sl.evs] at hv
  split at hv
  ·rename_i v vs' h1 h2
   obtain rfl:v::vs'=vs:=by simpa using hv
   simp [h.ev h1,ih h2]
  ·cases hv
def wR (g:Env):Option Nat→Value→Env
 | some d,v=>(d,v)::g
 | none,_=>g
theorem Fits.put {n:Nat} {a:Act} {g:Env} (h:Fits n a g) {dst:Option Nat} (hd:dst.all (·<n)=true) (v:Value):Fits n (a.put dst v) (wR g dst v):=by
 cases dst with
 | none=>exact h
 | some d =>
  have hd':d<n:=by simpa using hd
  refine ⟨by simp [Act.put,h.size],h.nodefer,fun t u hu=>?_⟩
  simp only [wR,look] at hu
  simp only [Act.put,Array.getElem?_setIfInBounds]
  split at hu
  ·rename_i e; subst e; rw [if_pos M,if_pos (by rw [h.size]; exact hd')]; exact hu
  ·rename_i e; rw [if_neg e]; exact h.get t u hu
def Sub (g g':Env):Prop:=∀ t v,look g' t=some v→look g t=some v
theorem zT (g:Env):Sub g []:=fun _ _ h=>by cases h
theorem zO {g g':Env} {t:Nat} {v:Value} (h:look g t=some v) (h':Sub g g'):Sub g ((t,v)::g'):=fun t' v' h2=>by
 simp only [look] at h2
 split at h2
 ·rename_i e; subst e; rw [h]; exact h2
 ·exact h' t' v' h2
theorem Sub.refl (g:Env):Sub g g:=fun _ _ h=>h
theorem Fits.sub {n:Nat} {a:Act} {g g':Env} (h:Fits n a g) (s:Sub g g'):Fits n a g':=⟨h.size,h.nodefer,fun t v hv=>h.get t v (s t v hv)⟩
abbrev uH :=Exit→Env→Hp→Prop
def lift (n:Nat) (w0:World) (Q:uH):Exit→Act→World→Prop:=fun e a w=>∃ g L,Q e g L∧Fits n a g∧St w0 w L
def xY (P:Program) (n:Nat) (w0:World) (c:Code) (Q:uH) (g:Env) (L:Hp):Prop :=
 ∀ a w,Fits n a g→St w0 w L→c.wp P (lift n w0 Q) a w
def yW (P:Program) (n:Nat) (w0:World) (ops:Array Oper) (rest:List Oper) (Q:uH) (g:Env) (L:Hp):Prop :=
 ∀ a w,Fits n a g→St w0 w L→wpList P ops (lift n w0 Q) rest a w
def yO (P:Program) (w0:World) (f:FuncId) (args:List Value) (pre:Hp) (post:Value→Hp→Prop):Prop :=
 ∀ w fr,St w0 w (pre+fr)→Calls P f args.toArray w fun e w'=>∃ v h,e=.returned v∧post v h∧St w0 w' (h+fr)
def seqQ (P:Program) (n:Nat) (w0:World) (y:Code) (Q:uH):uH
 | .normal,g,L=>xY P n w0 y Q g L
 | e,g,L=>Q e g L
def blockQ (id:Nat) (Q:uH):uH
 | .exit id',g,L=>if id'=id then Q .normal g L else Q (.exit id') g L
 | e,g,L=>Q e g L
def loopQ (I:Nat→Env→Hp→Prop) (m:Nat) (Q:uH):uH
 | .normal,g,L=>∃ m' g',m'<m∧Sub g g'∧I m' g' L
 | e,g,L=>Q e g L
section
variable {P:Program} {n:Nat} {w0:World} {Q:uH} {g:Env} {L:Hp}
theorem zF {x y:Code} (h:xY P n w0 x (seqQ P n w0 y Q) g L):xY P n w0 (.seq x y) Q g L:=by
 intro a w ha hw
 refine wp_seq (Code.wp_mono ?_ (h a w ha hw))
 rintro e a' w' ⟨g',L',hq,ha',hw'⟩
 cases e<;>first|exact hq a' w' ha' hw'|exact ⟨g',L',hq,ha',hw'⟩
theorem zP (h:Q .normal g L):xY P n w0 .skip Q g L:=fun _ _ ha hw=>wp_skip ⟨g,L,h,ha,hw⟩
theorem zM (h:Q .ret g L):xY P n w0 .ret Q g L:=fun _ _ ha hw=>wp_ret ⟨g,L,h,ha,hw⟩
theorem yC {id:Nat} (h:Q (.exit id) g L):xY P n w0 (.exit id) Q g L:=fun _ _ ha hw=>wp_exit ⟨g,L,h,ha,hw⟩
theorem zR {id:Nat} {c:Code} (h:xY P n w0 c (blockQ id Q) g L):xY P n w0 (.block id c) Q g L:=by
 intro a w ha hw
 refine wp_block (Code.wp_mono ?_ (h a w ha hw))
 rintro e a' w' ⟨g',L',hq,ha',hw'⟩
 cases e with
 | exit id' =>
  simp only [blockQ] at hq
  simp only [Exit.inBlock]
  split at hq
  ·rename_i e; rw [if_pos e]; exact ⟨g',L',hq,ha',hw'⟩
  ·rename_i e; rw [if_neg e]; exact ⟨g',L',hq,ha',hw'⟩
 | _=>exact ⟨g',L',hq,ha',hw'⟩
theorem gS {c:Operand} {x y:Code} {t:Bool} (hc:ev g c=some (.bool t)) (ht:t=true→xY P n w0 x Q g L) (hf:t=false→xY P n w0 y Q g L) :
  xY P n w0 (.cond c x y) Q g L:=by
 intro a w ha hw
 exact wp_cond_split (ha.ev hc) (fun e=>ht e a w ha hw) (fun e=>hf e a w ha hw)
theorem jV {c:Code} {g':Env} (s:Sub g g') (h:xY P n w0 c Q g' L):xY P n w0 c Q g L:=fun a w ha hw=>h a w (ha.sub s) hw
theorem hold_mono {c:Code} {Q':uH} (hq:∀ e g L,Q' e g L→Q e g L) (h:xY P n w0 c Q' g L):xY P n w0 c Q g L:=fun a w ha hw =>
 Code.wp_mono (fun e _ _ ⟨g',L',hq',ha',hw'⟩=>⟨g',L',hq e g' L' hq',ha',hw'⟩) (h a w ha hw)
theorem gR {c:Code} (I:Nat→Env→Hp→Prop) (m:Nat) (g':Env) (h0:I m g' L) (hs:Sub g g') (round:∀ m g L,I m g L→xY P n w0 c (loopQ I m Q) g L) :
  xY P n w0 (.loop c) Q g L:=by
 intro a w ha hw b k cs
 have key:∀ m a w,(∃ g L,I m g L∧Fits n a g∧St w0 w L) →
   ∃ e a' w',lift n w0 Q e a' w'∧Arrives P (lone (b.at a (.code c::.inLoop c::k)) cs w) b k cs e a' w':=by
  intro m
  induction m using Nat.strongRecOn with
  | _ m ih =>
   rintro a w ⟨g,L,hI,hfa,hst⟩
   obtain ⟨e,a1,w1,⟨g1,L1,hq,ha1,hw1⟩,harr⟩:=round m g L hI a w hfa hst b (.inLoop c::k) cs
   cases e with
   | normal =>
    obtain ⟨m',g2,hlt,hsub,hI1⟩:=hq
    obtain ⟨e2,a2,w2,hq2,harr2⟩:=ih m' hlt a1 w1 ⟨g2,L1,hI1,ha1.sub hsub,hw1⟩
    exact ⟨e2,a2,w2,hq2,.of_steps (Steps.trans harr (.one step_inLoop)) harr2⟩
   | exit id=>exact ⟨_,a1,w1,⟨g1,L1,hq,ha1,hw1⟩,.pass (x:=.inLoop c) M (fun _ _=>.inl (by simp)) harr⟩
   | goto l=>exact ⟨_,a1,w1,⟨g1,L1,hq,ha1,hw1⟩,.pass (x:=.inLoop c) M (fun _ _=>.inl (by simp)) harr⟩
   | ret=>exact ⟨_,a1,w1,⟨g1,L1,hq,ha1,hw1⟩,.pass (x:=.inLoop c) M (fun _ _=>.inl (by simp)) harr⟩
   | panic ch=>exact ⟨_,a1,w1,⟨g1,L1,hq,ha1,hw1⟩,.pass (x:=.inLoop c) M (fun _ _=>.inl (by simp)) harr⟩
   | outgrown=>exact ⟨_,a1,w1,⟨g1,L1,hq,ha1,hw1⟩,.pass (x:=.inLoop c) M (fun _ _=>.inl (by simp)) harr⟩
 obtain ⟨e,a',w',hq,harr⟩:=key m a w ⟨g',L,h0,ha.sub hs,hw⟩
 exact ⟨e,a',w',hq,.of_steps (.one step_loop) harr⟩
theorem hold_region {id:Nat} {ops:Array Oper} (h:yW P n w0 ops ops.toList Q g L):xY P n w0 (.region id ops false) Q g L :=
 fun a w ha hw=>wp_region_list (h a w ha hw)
theorem zB {id:Nat} {l:List Oper} (h:yW P n w0 l.toArray l Q g L):xY P n w0 (.region id l.toArray false) Q g L:=hold_region h
theorem zJ {c:Operand} {x y:Code} (hc:ev g c=some (.bool true)) (h:xY P n w0 x Q g L):xY P n w0 (.cond c x y) Q g L:=gS hc (fun _=>h) (fun h=>by cases h)
theorem zI {c:Operand} {x y:Code} (hc:ev g c=some (.bool false)) (h:xY P n w0 y Q g L):xY P n w0 (.cond c x y) Q g L:=gS hc (fun h=>by cases h) (fun _=>h)
theorem zE {ops:Array Oper} (h:Q .normal g L):yW P n w0 ops [] Q g L:=fun _ _ ha hw=>⟨g,L,h,ha,hw⟩
end
def oneV :List Value→Value
 | [v]=>v
 | l=>.tuple l.toArray
def qA (P:Program) (w0:World) (L:Hp) (t:TypeId) (ad:Addr) (v:Value):Prop :=
 ∀ w,St w0 w L→(loadVar t ad).run P w=.ok v w
def ResOk (P:Program) (w0:World) (g:Env) (L:Hp):List ResultVar→List Value→Prop
 | [],[]=>True
 | .tmp t::rs,v::vs=>look g t=some v∧ResOk P w0 g L rs vs
 | .cell b t::rs,v::vs=>(∃ ad,look g b=some (.pointer (some ad))∧qA P w0 L t ad v)∧ResOk P w0 g L rs vs
 | _,_=>False
def retQ (P:Program) (w0:World) (rs:List ResultVar) (fr:Hp) (post:Value→Hp→Prop):uH
 | .normal,g,L|.ret,g,L=>∃ vs h,ResOk P w0 g L rs vs∧post (oneV vs) h∧L=h+fr
 | _,_,_=>False
def argE :Nat→List Value→Env
 | _,[]=>[]
 | k,v::l=>(k,v)::argE (k+1) l
theorem look_argE :∀ (l:List Value) (k t:Nat) (v:Value),look (argE k l) t=some v→k≤t∧l[t - k]?=some v:=by
 intro l
 induction l with
 | nil=>intro k t v h; cases h
 | cons x l ih =>
  intro k t v h
  simp only [argE,look] at h
  split at h
  ·rename_i e; subst e; simpa using h
  ·rename_i e
   obtain ⟨h1,h2⟩:=ih (k+1) t v h
   refine ⟨by omega,?_⟩
   rw [show t - k=(t - (k+1))+1 by omega]
   simpa using h2
def resOne (tmps:Array Value):ResultVar→Sem Value
 | .tmp t=>pure (tmps.getD t undef)
 | .cell b t=>do loadVar t (← asAddr (tmps.getD b undef))
theorem results_eq (fn:Func) (tmps:Array Value):results fn tmps=(do let vs ← fn.results.mapM (resOne tmps); pure (if h:vs.size=1 then vs[0] else .tuple vs)):=by
 unfold results
 congr 1
theorem resOk_run {P:Program} {w0 w:World} {n:Nat} {a:Act} {g:Env} {L:Hp} (ha:Fits n a g) (hw:St w0 w L) (fn:Func) (rs:List ResultVar) (hr:fn.results=rs.toArray)
  {vs:List Value} (h:ResOk P w0 g L rs vs):(results fn a.tmps).run P w=.ok (oneV vs) w:=by
 have key:∀ (rs:List ResultVar) (vs:List Value),ResOk P w0 g L rs vs →
   (rs.mapM (resOne a.tmps)).run P w=.ok vs w:=by
  intro rs
  induction rs with
  | nil=>intro vs h; cases vs with
   | nil=>simp
   | cons=>simp [ResOk] at h
  | cons r rs ih =>
   intro vs h
   cases vs with
   | nil=>cases r<;>simp [ResOk] at h
   | cons v vs =>
    cases r with
    | tmp t =>
     have hv:a.tmps.getD t undef=v:=by simp [Array.getD_eq_getD_getElem?,ha.get t v h.1]
     have:=ih vs h.2
     simp only [List.mapM_cons,resOne,hv,Sem.run_bind,Sem.run_pure,Result.andThen_ok,this]
    | cell b t =>
     obtain ⟨⟨ad,h1,h2⟩,h3⟩:=h
     have hv:a.tmps.getD b undef=.pointer (some ad):=by simp [Array.getD_eq_getD_getElem?,ha.get b _ h1]
     have:=ih vs h3
     have e1:asAddr (.pointer (some ad))=(pure ad:Sem Addr):=rfl
     simp only [List.mapM_cons,resOne,hv,e1,pure_bind,Sem.run_bind,Sem.run_pure,Result.andThen_ok,this,h2 w hw]
 have e:=key rs vs h
 rw [results_eq,hr,List.mapM_toArray]
 simp only [Sem.run_bind,Sem.run_map,e,Result.andThen_ok,Sem.run_pure]
 match vs with
 | []=>rfl
 | [v]=>rfl
 | v::u::l=>simp [oneV]
theorem spec_of_hold {P:Program} {w0:World} {f:FuncId} {fn:Func} {c:Code} {n:Nat} {args:List Value} {rs:List ResultVar} {pre:Hp} {post:Value→Hp→Prop}
  (hf:P.funcs[f]?=some fn) (hb:fn.body=some c) (hn:fn.ntmps=n) (hr:fn.results=rs.toArray) (hargs:decide (args.length≤n)=true)
  (h:∀ fr,xY P n w0 c (retQ P w0 rs fr post) (argE 0 args) (pre+fr)):yO P w0 f args pre post:=by
 intro w fr hst
 have hle:args.length≤n:=of_decide_eq_true hargs
 refine calls_of_wp hf hb (Code.wp_mono ?_ (h fr { tmps:=args.toArray++Array.replicate (fn.ntmps - args.toArray.size) undef,defers:=[] } w ⟨by simp [hn]; omega,rfl,fun t v ht=>?_⟩ hst))
 ·rintro e a' w' ⟨g,L,hq,ha',hw'⟩
  cases e with
  | normal=>obtain ⟨vs,h',h1,h2,rfl⟩:=hq; exact ⟨ha'.nodefer,_,resOk_run ha' hw' fn rs hr h1,_,h',rfl,h2,hw'⟩
  | ret=>obtain ⟨vs,h',h1,h2,rfl⟩:=hq; exact ⟨ha'.nodefer,_,resOk_run ha' hw' fn rs hr h1,_,h',rfl,h2,hw'⟩
  | _=>exact hq.elim
 ·have:=(look_argE args 0 t v ht).2
  simp only [Nat.sub_zero] at this
  have hlt:=(List.getElem?_eq_some_iff.1 this).1
  rw [List.getElem?_eq_getElem hlt] at this
  simp [Array.getElem?_append,hlt,Option.some.inj this]
def retD (P:Program) (w0:World) (rs:List ResultVar) (fr:Hp) (post:Value→Hp→Prop):uH
 | .normal,g,L|.ret,g,L=>∃ vs h R,ResOk P w0 g L rs vs∧post (oneV vs) h∧L=h+fr+R
 | _,_,_=>False
theorem zN {P:Program} {w0:World} {f:FuncId} {fn:Func} {c:Code} {n:Nat} {args:List Value} {rs:List ResultVar} {pre:Hp} {post:Value→Hp→Prop}
  (hf:P.funcs[f]?=some fn) (hb:fn.body=some c) (hn:fn.ntmps=n) (hr:fn.results=rs.toArray) (hargs:decide (args.length≤n)=true)
  (h:∀ fr,xY P n w0 c (retD P w0 rs fr post) (argE 0 args) (pre+fr)):yO P w0 f args pre post:=by
 intro w fr hst
 have hle:args.length≤n:=of_decide_eq_true hargs
 refine calls_of_wp hf hb (Code.wp_mono ?_ (h fr { tmps:=args.toArray++Array.replicate (fn.ntmps - args.toArray.size) undef,defers:=[] } w ⟨by simp [hn]; omega,rfl,fun t v ht=>?_⟩ hst))
 ·rintro e a' w' ⟨g,L,hq,ha',hw'⟩
  cases e with
  | normal=>obtain ⟨vs,h',R,h1,h2,rfl⟩:=hq; exact ⟨ha'.nodefer,_,resOk_run ha' hw' fn rs hr h1,_,h',rfl,h2,hw'.left⟩
  | ret=>obtain ⟨vs,h',R,h1,h2,rfl⟩:=hq; exact ⟨ha'.nodefer,_,resOk_run ha' hw' fn rs hr h1,_,h',rfl,h2,hw'.left⟩
  | _=>exact hq.elim
 ·have:=(look_argE args 0 t v ht).2
  simp only [Nat.sub_zero] at this
  have hlt:=(List.getElem?_eq_some_iff.1 this).1
  rw [List.getElem?_eq_getElem hlt] at this
  simp [Array.getElem?_append,hlt,Option.some.inj this]
class yJ (X L:Hp) (R:outParam Hp):Prop where
 out:L=X+R
instance (priority:=1300) (L:Hp):yJ 0 L L:=⟨(qW _).symm⟩
instance (priority:=1200) (X:Hp):yJ X X 0:=⟨(yA _).symm⟩
instance (priority:=1100) (X Y:Hp):yJ X (X+Y) Y:=⟨rfl⟩
instance (priority:=1000) (X Y:Hp):yJ X (Y+X) Y:=⟨uQ _ _⟩
instance (priority:=900) (X1 X2 L L1 R:Hp) [h1:yJ X1 L L1] [h2:yJ X2 L1 R]:yJ (X1+X2) L R:=⟨by rw [h1.out,h2.out,yZ]⟩
instance (priority:=800) (X Y Z Y':Hp) [h:yJ X Y Y']:yJ X (Y+Z) (Y'+Z):=⟨by rw [h.out,yZ]⟩
instance (priority:=700) (X Y Z Z':Hp) [h:yJ X Z Z']:yJ X (Y+Z) (Y+Z'):=⟨by rw [h.out,← yZ,uQ Y,yZ]⟩
class Und (P:Program) (t:TypeId) (d:outParam TypeDesc):Prop where
 out:P.underlying t=some d
class Inf (P:Program) (t:TypeId) (size bytes:outParam Nat) (zero:outParam Value):Prop where
 out:∃ i,P.info? t=some i∧i.size=size∧i.bytes=bytes∧i.zero=some zero
class Fun (P:Program) (k:FuncId):Prop where
 out:∃ fn,P.funcs[k]?=some fn∧(fn.name == "runtime.NumGoroutine")=false∧fn.body.isNone=false
def gG :TypeDesc→Bool
 | .struct _|.array _ _=>false
 | _=>true
def PV (P:Program) (g:Env) (op:Op) (v:Value):Prop :=
 ∀ (o:Oper) (a:Act) (w:World) (n:Nat),o.op=op→Fits n a g→(execOp a.eval o).run P w=.ok (.value v) w
def LV (g:Env) (op:Op) (t:TypeId) (ad:Addr):Prop :=
 ∀ (o:Oper) (a:Act) (n:Nat),o.op=op→Fits n a g→execOp a.eval o=(do pure (.value (← loadVar t ad)))
def EV (P:Program) (w0:World) (L:Hp) (g:Env) (op:Op) (post:Value→Hp→Prop):Prop :=
 ∀ (o:Oper) (a:Act) (w:World) (n:Nat),o.op=op→Fits n a g→St w0 w L →
  ∃ v w' L',((execOp a.eval o).run P w=.ok (.value v) w'∨((execOp a.eval o).run P w=.ok .skip w'∧v=undef))∧post v L'∧St w0 w' L'
def CV (P:Program) (g:Env) (op:Op) (k:FuncId) (args:List Value):Prop :=
 ∀ (o:Oper) (a:Act) (w:World) (n:Nat),o.op=op→Fits n a g→(execOp a.eval o).run P w=.ok (.enter k args.toArray) w
def yieldedE (ops:Array Oper) (g:Env) (j:Nat):Option (Option Bool) :=
 match (ops[j]?).bind (·.dst) with
 | none=>some none
 | some d=>match look g d with
  | some (.bool b)=>some (some b)
  | some (.tuple _)=>some none
  | _=>none
def kI (ops:Array Oper) (g:Env):Option (Nat × Bool)→Option Bool
 | none=>some true
 | some (j,want)=>(yieldedE ops g j).map (·==some want)
theorem wB {ops:Array Oper} {g:Env} {o:Oper} {a:Act} {n:Nat} {b:Bool} (ha:Fits n a g) (h:kI ops g o.guard=some b):Region.wanted o (yielded ops a.tmps)=b:=by
 unfold kI at h
 unfold Region.wanted
 split at h
 ·rename_i e; simp [e] at *; exact h
 ·rename_i j want e
  simp only [e]
  unfold yieldedE at h
  unfold yielded
  cases hd:(ops[j]?).bind (·.dst) with
  | none=>simp [hd] at h ⊢; exact h
  | some d =>
   simp only [hd] at h
   cases hl:look g d with
   | none=>simp [hl] at h
   | some v =>
    have:=ha.get d v hl
    simp only [hl] at h
    simp only [Option.bind_some,this]
    cases v<;>simp_all
section
variable {P:Program} {n:Nat} {w0:World} {Q:uH} {g:Env} {L:Hp} {ops:Array Oper} {rest:List Oper} {dst:Option Nat} {op:Op} {ty:TypeId} {pos:String} {af:Array Edge} {gd:Option (Nat × Bool)}
theorem xE (hw:kI ops g gd=some false) (hd:dst.all (·<n)=true) (hk:yW P n w0 ops rest Q (wR g dst undef) L):yW P n w0 ops (⟨dst,op,ty,pos,af,gd⟩::rest) Q g L:=by
 intro a w ha hst
 exact wpList_skip (wB (o:=⟨dst,op,ty,pos,af,gd⟩) ha hw) (hk _ w (ha.put hd _) hst)
theorem L_run (hw:kI ops g gd=some true) (h:∀ a w,Fits n a g→St w0 w L→Oper.wp P ⟨dst,op,ty,pos,af,gd⟩ a w (wpList P ops (lift n w0 Q) rest) (lift n w0 Q)):yW P n w0 ops (⟨dst,op,ty,pos,af,gd⟩::rest) Q g L:=by
 intro a w ha hst
 unfold wpList
 rw [if_pos (wB (o:=⟨dst,op,ty,pos,af,gd⟩) ha hw)]
 exact .inl (h a w ha hst)
theorem yG (hw:kI ops g gd=some true) (hd:dst.all (·<n)=true) {v:Value} (h:PV P g op v) (hk:yW P n w0 ops rest Q (wR g dst v) L):yW P n w0 ops (⟨dst,op,ty,pos,af,gd⟩::rest) Q g L :=
 L_run hw fun a w ha hst=>by
  unfold Oper.wp
  rw [h ⟨dst,op,ty,pos,af,gd⟩ a w n M ha]
  exact hk _ w (ha.put hd _) hst
theorem L_bool (hw:kI ops g gd=some true) (hd:dst.all (·<n)=true) {b:Bool} (h:PV P g op (.bool b)) (ht:b=true→yW P n w0 ops rest Q (wR g dst (.bool true)) L)
  (hf:b=false→yW P n w0 ops rest Q (wR g dst (.bool false)) L):yW P n w0 ops (⟨dst,op,ty,pos,af,gd⟩::rest) Q g L:=by
 cases b
 ·exact yG hw hd h (hf M)
 ·exact yG hw hd h (ht M)
theorem yF (hw:kI ops g gd=some true) (hd:dst.all (·<n)=true) {p:Prop} [Decidable p] (h:PV P g op (.bool (decide p))) (ht:p→yW P n w0 ops rest Q (wR g dst (.bool true)) L)
  (hf:¬ p→yW P n w0 ops rest Q (wR g dst (.bool false)) L):yW P n w0 ops (⟨dst,op,ty,pos,af,gd⟩::rest) Q g L :=
 L_bool hw hd h (fun e=>ht (of_decide_eq_true e)) (fun e=>hf (of_decide_eq_false e))
theorem kD (hw:kI ops g gd=some true) (hd:dst.all (·<n)=true) {p:Prop} [Decidable p] (h:PV P g op (.bool (decide p))) (hp:p) (hk:yW P n w0 ops rest Q (wR g dst (.bool true)) L) :
  yW P n w0 ops (⟨dst,op,ty,pos,af,gd⟩::rest) Q g L:=yF hw hd h (fun _=>hk) (fun h=>absurd hp h)
theorem yP (hw:kI ops g gd=some true) (hd:dst.all (·<n)=true) {p:Prop} [Decidable p] (h:PV P g op (.bool (decide p))) (hp:¬ p) (hk:yW P n w0 ops rest Q (wR g dst (.bool false)) L) :
  yW P n w0 ops (⟨dst,op,ty,pos,af,gd⟩::rest) Q g L:=yF hw hd h (fun h=>absurd h hp) (fun _=>hk)
theorem dJ (hw:kI ops g gd=some true) (hd:dst.all (·<n)=true) {t:TypeId} {ad:Addr} {v:Value} (h:LV g op t ad) (hr:qA P w0 L t ad v)
  (hk:yW P n w0 ops rest Q (wR g dst v) L):yW P n w0 ops (⟨dst,op,ty,pos,af,gd⟩::rest) Q g L :=
 L_run hw fun a w ha hst=>by
  unfold Oper.wp
  rw [h ⟨dst,op,ty,pos,af,gd⟩ a n M ha]
  simp only [Sem.run_bind,hr w hst,Result.andThen_ok,Sem.run_pure]
  exact hk _ w (ha.put hd _) hst
theorem kF (hw:kI ops g gd=some true) (hd:dst.all (·<n)=true) {post:Value→Hp→Prop} (h:EV P w0 L g op post)
  (hk:∀ v L',post v L'→yW P n w0 ops rest Q (wR g dst v) L'):yW P n w0 ops (⟨dst,op,ty,pos,af,gd⟩::rest) Q g L :=
 L_run hw fun a w ha hst=>by
  unfold Oper.wp
  obtain ⟨v,w',L',hr,hp,hst'⟩:=h ⟨dst,op,ty,pos,af,gd⟩ a w n rfl ha hst
  rcases hr with hr|⟨hr,rfl⟩<;>rw [hr]<;>exact hk _ L' hp _ w' (ha.put hd _) hst'
theorem zX (hw:kI ops g gd=some true) (hd:dst.all (·<n)=true) {k:FuncId} {args:List Value} (h:CV P g op k args) {pre R:Hp} {post:Value→Hp→Prop}
  (hs:yO P w0 k args pre post) [hL:yJ pre L R] (hk:∀ v h,post v h→yW P n w0 ops rest Q (wR g dst v) (h+R)):yW P n w0 ops (⟨dst,op,ty,pos,af,gd⟩::rest) Q g L :=
 L_run hw fun a w ha hst=>by
  unfold Oper.wp
  rw [h ⟨dst,op,ty,pos,af,gd⟩ a w n M ha]
  rw [hL.out] at hst
  refine Calls.mono (hs w R hst) ?_
  rintro e w' ⟨v,h',rfl,hp,hst'⟩
  exact hk v h' hp _ w' (ha.put hd _) hst'
end
def bf (ops:Array Oper):Nat→Nat→Nat→Bool
 | 0,_,_=>false
 | f+1,k,j=>match ops[j]? with
  | none=>false
  | some o=>o.after.any fun e=>Region.binds .any e&&(e.on==k||bf ops f k e.on)
def Closed (ops:Array Oper) (listed:Array Bool):Prop:=∀ f k j,bf ops f k j=true→listed.getD j false=true→listed.getD k false=true
theorem bf_ready {ops:Array Oper} {listed:Array Bool} (hc:Closed ops listed) {j:Nat} (hj:j∈Region.ready .any ops listed) {f k:Nat} (h:bf ops f k j=true):listed.getD k false=true:=by
 obtain ⟨_,o,ho,hall⟩:=mem_ready.1 hj
 cases f with
 | zero=>simp [bf] at h
 | succ f =>
  simp only [bf,ho] at h
  rw [Array.any_eq_true'] at h
  obtain ⟨e,he,h⟩:=h
  simp only [Bool.and_eq_true,Bool.or_eq_true,beq_iff_eq] at h
  have hl:=hall e he h.1
  rcases h.2 with rfl|h2
  ·exact hl
  ·exact hc f k e.on h2 hl
theorem Closed.set {ops:Array Oper} {listed:Array Bool} (hc:Closed ops listed) {i:Nat} (hi:i∈Region.ready .any ops listed):Closed ops (listed.setIfInBounds i true):=by
 intro f k j h hj
 by_cases hij:i=j
 ·subst hij; exact getD_set_true (bf_ready hc hi h)
 ·rw [getD_set_ne false hij] at hj; exact getD_set_true (hc f k j h hj)
theorem Closed.start (ops:Array Oper) (n:Nat):Closed ops (Array.replicate n false):=by
 intro f k j _ hj
 simp [Array.getD_eq_getD_getElem?,Array.getElem?_replicate] at hj
 split at hj<;>simp at hj
abbrev Watch :=List (Nat × (World→Prop))
def Watch.past (ops:Array Oper) (i:Nat) (W:Watch):Watch:=W.filter fun p=>!bf ops ops.size p.1 i
def WG (P:Program) (ops:Array Oper) (Q:Exit→Act→World→Prop):Nat→Watch→Array Bool→Act→World→Prop
 | 0,_,listed,a,w=>Region.ready .any ops listed=[]∧Q .normal a w
 | fuel+1,W,listed,a,w=>(Region.ready .any ops listed=[]→Q .normal a w) ∧
  ∀ i∈Region.ready .any ops listed,wpOp P ops Q i (fun a' w'=>(∀ p∈W.past ops i,p.2 w')∧WG P ops Q fuel (W.past ops i) (listed.setIfInBounds i true) a' w') a w
theorem WG_any {P:Program} {ops:Array Oper} {Q:Exit→Act→World→Prop}:∀ (fuel:Nat) (W:Watch) (listed:Array Bool) (a:Act) (w:World),WG P ops Q fuel W listed a w→wpAny P .any ops Q fuel listed a w
 | 0,_,_,_,_,h=>h
 | fuel+1,_,_,_,_,h=>⟨h.1,fun i hi=>wpOp_mono (fun a' w' h'=>WG_any fuel _ _ a' w' h'.2) (h.2 i hi)⟩
theorem WG_sub {P:Program} {ops:Array Oper} {Q:Exit→Act→World→Prop}:∀ (fuel:Nat) (W W':Watch) (listed:Array Bool) (a:Act) (w:World),(∀ p∈W',p∈W∨∀ w,p.2 w)→WG P ops Q fuel W listed a w→WG P ops Q fuel W' listed a w
 | 0,_,_,_,_,_,_,h=>h
 | fuel+1,W,W',_,_,_,hs,h=>by
  have hs':∀ i,∀ p∈W'.past ops i,p∈W.past ops i∨∀ w,p.2 w:=fun i p hp=>by
   obtain ⟨h1,h2⟩:=List.mem_filter.1 hp
   exact (hs p h1).imp (fun h=>List.mem_filter.2 ⟨h,h2⟩) id
  exact ⟨h.1,fun i hi=>wpOp_mono (fun a' w' h'=>⟨fun p hp=>(hs' i p hp).elim (h'.1 p) (fun h=>h w'),WG_sub fuel _ _ _ a' w' (hs' i) h'.2⟩) (h.2 i hi)⟩
theorem WG_first {P:Program} {ops:Array Oper} {Q:Exit→Act→World→Prop} {S:World→Prop} {i:Nat} {oi:Oper} {v:Value} (hi:ops[i]?=some oi)
  (hsel:∀ (j:Nat) (o:Oper) cs b,ops[j]?=some o→o.op≠.select cs b) (hQ:∀ c a w,¬ Q (.panic c) a w) :
  ∀ (fuel:Nat) (W:Watch) (listed:Array Bool) (a:Act) (w:World),Closed ops listed →
   (∀ j oj,ops[j]?=some oj→j≠i→listed.getD j true=false→(∀ e∈oj.after,Region.binds .any e=true→e.on≠i)→oi.apart ops oj=true) →
   i∈Region.ready .any ops listed→YieldsIf P ops S oi v a→S w→(∀ p∈W,p.2 w) →
   WG P ops Q fuel ((i,S)::W) (listed.setIfInBounds i true) (a.put oi.dst v) w→WG P ops Q (fuel+1) W listed a w:=by
 have self:∀ (fuel:Nat) (W:Watch) (listed:Array Bool) (a:Act) (w:World),(∀ p∈W,p.2 w)→WG P ops Q fuel ((i,S)::W) (listed.setIfInBounds i true) (a.put oi.dst v) w →
   ((∀ p∈W.past ops i,p.2 w)∧WG P ops Q fuel (W.past ops i) (listed.setIfInBounds i true) (a.put oi.dst v) w):=fun fuel W listed a w hW H =>
  ⟨fun p hp=>hW p (List.mem_filter.1 hp).1,WG_sub fuel _ _ _ _ _ (fun p hp=>.inl (List.mem_cons_of_mem _ (List.mem_filter.1 hp).1)) H⟩
 intro fuel
 induction fuel with
 | zero =>
  intro W listed a w hc _ hr hy hS hW H
  refine ⟨fun h=>(by rw [h] at hr; cases hr),fun j hj=>?_⟩
  by_cases hji:j=i
  ·subst hji; exact hy.wpOp hi hS (self 0 W listed a w hW H)
  ·have:=ready_mono hj hji
   rw [H.1] at this
   cases this
 | succ fuel ih =>
  intro W listed a w hc hfree hr hy hS hW H
  refine ⟨fun h=>(by rw [h] at hr; cases hr),fun j hj=>?_⟩
  by_cases hji:j=i
  ·subst hji; exact hy.wpOp hi hS (self (fuel+1) W listed a w hW H)
  ·have h1:=H.2 j (ready_mono hj hji)
   obtain ⟨hjun,oj,hoj,hall⟩:=mem_ready.1 hj
   have hiun:listed.getD i false=false:=by
    have h0:=(mem_ready.1 hr).1
    rcases Nat.lt_or_ge i listed.size with h'|h'
    ·simp [h'] at h0 ⊢; exact h0
    ·simp [Array.getElem?_eq_none h']
   have hbf:bf ops ops.size i j=false:=by
    cases hb:bf ops ops.size i j with
    | false=>rfl
    | true=>rw [bf_ready hc hj hb] at hiun; cases hiun
   have hpast:Watch.past ops j ((i,S)::W)=(i,S)::Watch.past ops j W:=by simp [Watch.past,hbf]
   have hnot:∀ e∈oj.after,Region.binds .any e=true→e.on≠i:=fun e he hb heq=>by
    have h1:=hall e he hb
    rw [heq,hiun] at h1; cases h1
   have h2:=wpOp_putIf hoj (hfree j oj hoj hji hjun hnot) (fun cs b=>hsel i oi cs b hi) (fun cs b=>hsel j oj cs b hoj) (fun c a w h=>(hQ c _ w h).elim) hy h1
   have hfree':∀ k ok,ops[k]?=some ok→k≠i→(listed.setIfInBounds j true).getD k true=false →
     (∀ e∈ok.after,Region.binds .any e=true→e.on≠i)→oi.apart ops ok=true:=fun k ok hk hki hun hno=>by
    refine hfree k ok hk hki ?_ hno
    by_cases hjk:j=k
    ·subst hjk; exact hjun
    ·rw [getD_set_ne true hjk] at hun; exact hun
   refine wpOp_mono (fun a' w' h3=>?_) h2
   rw [hpast] at h3
   refine ⟨fun p hp=>h3.2.1 p (List.mem_cons_of_mem _ hp),?_⟩
   refine ih (W.past ops j) (listed.setIfInBounds j true) a' w' (hc.set hj) hfree' (ready_mono hr (Ne.symm hji)) h3.1 (h3.2.1 (i,S) (by simp)) (fun p hp=>h3.2.1 p (List.mem_cons_of_mem _ hp)) ?_
   rw [Array.setIfInBounds_comm _ _ hji]
   exact h3.2.2
def uK (ops:Array Oper) (eff:List Nat):Array Bool→List Nat→Bool
 | listed,[]=>Region.ready .any ops listed==[]
 | listed,i::s=>(if eff.contains i then Region.ready .any ops listed==[i] else (Region.ready .any ops listed).contains i&&Region.free .any ops listed i)&&uK ops eff (listed.setIfInBounds i true) s
abbrev kK :=List (Nat × TypeId × Addr × Value)
def kK.at (P:Program) (W:kK):Watch:=W.map fun p=>(p.1,fun w=>(loadVar p.2.1 p.2.2.1).run P w=.ok p.2.2.2 w)
def kK.past (ops:Array Oper) (i:Nat) (W:kK):kK:=W.filter fun p=>!bf ops ops.size p.1 i
theorem kK.at_past (P:Program) (ops:Array Oper) (i:Nat) (W:kK):(W.at P).past ops i=(W.past ops i).at P:=by
 simp only [Watch.past,kK.at,kK.past,List.filter_map]
 rfl
class NP (Q:uH):Prop where
 out:∀ c g L,¬ Q (.panic c) g L
instance (P:Program) (n:Nat) (w0:World) (y:Code) (Q:uH) [h:NP Q]:NP (seqQ P n w0 y Q):=⟨h.out⟩
instance (id:Nat) (Q:uH) [h:NP Q]:NP (blockQ id Q):=⟨h.out⟩
instance (I:Nat→Env→Hp→Prop) (m:Nat) (Q:uH) [h:NP Q]:NP (loopQ I m Q):=⟨h.out⟩
instance (P:Program) (w0:World) (rs:List ResultVar) (fr:Hp) (post:Value→Hp→Prop):NP (retQ P w0 rs fr post):=⟨fun _ _ _ h=>h⟩
instance (P:Program) (w0:World) (rs:List ResultVar) (fr:Hp) (post:Value→Hp→Prop):NP (retD P w0 rs fr post):=⟨fun _ _ _ h=>h⟩
def xC (P:Program) (n:Nat) (w0:World) (ops:Array Oper) (eff:List Nat) (W:kK) (listed:Array Bool) (s:List Nat) (Q:uH) (g:Env) (L:Hp):Prop :=
 uK ops eff listed s=true→Closed ops listed→NP Q→Region.noSelect ops=true→(∀ p∈W,qA P w0 L p.2.1 p.2.2.1 p.2.2.2) →
  ∀ a w,Fits n a g→St w0 w L→WG P ops (lift n w0 Q) s.length (W.at P) listed a w
section
variable {P:Program} {n:Nat} {w0:World} {Q:uH} {g:Env} {L:Hp} {ops:Array Oper} {eff:List Nat} {W:kK} {listed:Array Bool} {s:List Nat}
theorem yB {id:Nat} [hq:NP Q] (eff:List Nat) (s:List Nat) (hm:P.follows .mixedOrders=true) (hl:s.length=ops.size) (hs:Region.noSelect ops=true)
  (hok:uK ops eff (Array.replicate ops.size false) s=true) (h:xC P n w0 ops eff [] (Array.replicate ops.size false) s Q g L):xY P n w0 (.region id ops true) Q g L:=by
 intro a w ha hst
 refine wp_region_any hm (WG_any _ [] _ _ _ ?_)
 rw [← hl]
 have:=h hok (Closed.start ops _) hq hs (by simp) a { w with drawn:=w.drawn+1 } ha hst.drew
 rw [← hl] at this
 exact this
theorem yI (h:Q .normal g L):xC P n w0 ops eff W listed [] Q g L:=by
 intro hok _ _ _ _ a w ha hst
 simp only [uK,beq_iff_eq] at hok
 exact ⟨hok,g,L,h,ha,hst⟩
theorem lift_np [hq:NP Q] (c:List PanicEntry) (a:Act) (w:World):¬ lift n w0 Q (.panic c) a w:=fun ⟨_,_,h,_⟩=>hq.out _ _ _ h
theorem vY {w:World} (hW:∀ p∈W,qA P w0 L p.2.1 p.2.2.1 p.2.2.2) (hst:St w0 w L):∀ p∈W.at P,p.2 w:=by
 intro p hp
 obtain ⟨q,hq,rfl⟩:=List.mem_map.1 hp
 exact hW q hq w hst
theorem W_take {i:Nat} {o:Oper} {v:Value} (S:World→Prop) (W':kK) (hi:ops[i]?=some o) (heff:eff.contains i=false) (hd:o.dst.all (·<n)=true)
  (hW':∀ p∈(i,S)::kK.at P W,p∈kK.at P W'∨∀ w,p.2 w) (hS:∀ w,St w0 w L→S w) (hlW:(∀ p∈W,qA P w0 L p.2.1 p.2.2.1 p.2.2.2)→∀ p∈W',qA P w0 L p.2.1 p.2.2.1 p.2.2.2)
  (hy:∀ a,Fits n a g→YieldsIf P ops S o v a)
  (hk:xC P n w0 ops eff W' (listed.setIfInBounds i true) s Q (wR g o.dst v) L):xC P n w0 ops eff W listed (i::s) Q g L:=by
 intro hok hc hq hsel hW a w ha hst
 simp only [uK,heff,Bool.and_eq_true,Bool.false_eq_true,if_false] at hok
 obtain ⟨⟨h1,h2⟩,h3⟩:=hok
 have hr:i∈Region.ready .any ops listed:=by simpa using h1
 have H:=hk h3 (hc.set hr) hq hsel (hlW hW) (a.put o.dst v) w (ha.put hd v) hst
 exact WG_first hi (Region.noSelect_spec hsel) (fun c a w=>lift_np c a w) s.length (W.at P) listed a w hc
  (fun j oj hj hne hun hno=>Region.free_spec hi h2 j oj hj hne hun hno) hr (hy a ha) (hS w hst) (vY hW hst) (WG_sub _ _ _ _ _ _ hW' H)
theorem wI {i:Nat} {dst:Option Nat} {op:Op} {ty:TypeId} {pos:String} {af:Array Edge} {gd:Option (Nat × Bool)} (hi:ops[i]?=some ⟨dst,op,ty,pos,af,gd⟩) (heff:eff.contains i=false) (hw:kI ops g gd=some false) (hd:dst.all (·<n)=true)
  (hk:xC P n w0 ops eff W (listed.setIfInBounds i true) s Q (wR g dst undef) L):xC P n w0 ops eff W listed (i::s) Q g L :=
 W_take (fun _=>True) W hi heff hd (fun p hp=>by rcases List.mem_cons.1 hp with rfl|hp; exact .inr fun _=>trivial; exact .inl hp) (fun _ _=>trivial) id (fun a ha=>.inr ⟨wB (o:=⟨dst,op,ty,pos,af,gd⟩) ha hw,rfl⟩) hk
theorem yD {i:Nat} {dst:Option Nat} {op:Op} {ty:TypeId} {pos:String} {af:Array Edge} {gd:Option (Nat × Bool)} (hi:ops[i]?=some ⟨dst,op,ty,pos,af,gd⟩) (heff:eff.contains i=false) (hw:kI ops g gd=some true) (hd:dst.all (·<n)=true) {v:Value} (h:PV P g op v)
  (hk:xC P n w0 ops eff W (listed.setIfInBounds i true) s Q (wR g dst v) L):xC P n w0 ops eff W listed (i::s) Q g L :=
 W_take (fun _=>True) W hi heff hd (fun p hp=>by rcases List.mem_cons.1 hp with rfl|hp; exact .inr fun _=>trivial; exact .inl hp) (fun _ _=>trivial) id
  (fun a ha=>.inl ⟨wB (o:=⟨dst,op,ty,pos,af,gd⟩) ha hw,fun w _=>h ⟨dst,op,ty,pos,af,gd⟩ a w n M ha⟩) hk
theorem W_bool {i:Nat} {dst:Option Nat} {op:Op} {ty:TypeId} {pos:String} {af:Array Edge} {gd:Option (Nat × Bool)} (hi:ops[i]?=some ⟨dst,op,ty,pos,af,gd⟩) (heff:eff.contains i=false) (hw:kI ops g gd=some true) (hd:dst.all (·<n)=true) {b:Bool} (h:PV P g op (.bool b))
  (ht:b=true→xC P n w0 ops eff W (listed.setIfInBounds i true) s Q (wR g dst (.bool true)) L)
  (hf:b=false→xC P n w0 ops eff W (listed.setIfInBounds i true) s Q (wR g dst (.bool false)) L):xC P n w0 ops eff W listed (i::s) Q g L:=by
 cases b
 ·exact yD hi heff hw hd h (hf M)
 ·exact yD hi heff hw hd h (ht M)
theorem jY {i:Nat} {dst:Option Nat} {op:Op} {ty:TypeId} {pos:String} {af:Array Edge} {gd:Option (Nat × Bool)} (hi:ops[i]?=some ⟨dst,op,ty,pos,af,gd⟩) (heff:eff.contains i=false) (hw:kI ops g gd=some true) (hd:dst.all (·<n)=true) {p:Prop} [Decidable p] (h:PV P g op (.bool (decide p)))
  (ht:p→xC P n w0 ops eff W (listed.setIfInBounds i true) s Q (wR g dst (.bool true)) L)
  (hf:¬ p→xC P n w0 ops eff W (listed.setIfInBounds i true) s Q (wR g dst (.bool false)) L):xC P n w0 ops eff W listed (i::s) Q g L :=
 W_bool hi heff hw hd h (fun e=>ht (of_decide_eq_true e)) (fun e=>hf (of_decide_eq_false e))
theorem yQ {i:Nat} {dst:Option Nat} {op:Op} {ty:TypeId} {pos:String} {af:Array Edge} {gd:Option (Nat × Bool)} (hi:ops[i]?=some ⟨dst,op,ty,pos,af,gd⟩) (heff:eff.contains i=false) (hw:kI ops g gd=some true) (hd:dst.all (·<n)=true) {t:TypeId} {ad:Addr} {v:Value} (h:LV g op t ad)
  (hr:qA P w0 L t ad v) (hk:xC P n w0 ops eff ((i,t,ad,v)::W) (listed.setIfInBounds i true) s Q (wR g dst v) L):xC P n w0 ops eff W listed (i::s) Q g L :=
 W_take (fun w=>(loadVar t ad).run P w=.ok v w) ((i,t,ad,v)::W) hi heff hd (fun p hp=>.inl hp) (fun w hst=>hr w hst)
  (fun hW p hp=>by rcases List.mem_cons.1 hp with rfl|hp; exact hr; exact hW p hp)
  (fun a ha=>.inl ⟨wB (o:=⟨dst,op,ty,pos,af,gd⟩) ha hw,fun w hS=>by rw [h ⟨dst,op,ty,pos,af,gd⟩ a n M ha]; simp only [Sem.run_bind,hS,Result.andThen_ok,Sem.run_pure]⟩) hk
inductive xF (ops:Array Oper) (i:Nat):kK→kK→Prop
 | nil:xF ops i [] []
 | keep {p:Nat × TypeId × Addr × Value} {W W':kK}:xF ops i W W'→xF ops i (p::W) (p::W')
 | drop {p:Nat × TypeId × Addr × Value} {W W':kK}:bf ops ops.size p.1 i=true→xF ops i W W'→xF ops i (p::W) W'
theorem xF.all {i:Nat}:∀ (W:kK),xF ops i W W
 | []=>.nil
 | _::W=>.keep (xF.all W)
theorem xF.sub {i:Nat} {W W':kK} (h:xF ops i W W'):∀ p∈W.past ops i,p∈W':=by
 induction h with
 | nil=>intro p hp; cases hp
 | keep h ih =>
  intro p hp
  obtain ⟨h1,h2⟩:=List.mem_filter.1 hp
  rcases List.mem_cons.1 h1 with rfl|h1
  ·simp
  ·exact List.mem_cons_of_mem _ (ih p (List.mem_filter.2 ⟨h1,h2⟩))
 | drop hb h ih =>
  intro p hp
  obtain ⟨h1,h2⟩:=List.mem_filter.1 hp
  rcases List.mem_cons.1 h1 with rfl|h1
  ·simp [hb] at h2
  ·exact ih p (List.mem_filter.2 ⟨h1,h2⟩)
theorem xF.at {i:Nat} {W W':kK} (h:xF ops i W W'):∀ p∈(W.at P).past ops i,p∈W'.at P∨∀ w,p.2 w:=by
 intro p hp
 rw [kK.at_past] at hp
 obtain ⟨q,hq,rfl⟩:=List.mem_map.1 hp
 exact .inl (List.mem_map.2 ⟨q,h.sub q hq,rfl⟩)
def uX (P:Program) (w0:World) (L:Hp):kK→Prop
 | []=>True
 | p::W=>qA P w0 L p.2.1 p.2.2.1 p.2.2.2∧uX P w0 L W
theorem uX.all {W:kK} (h:uX P w0 L W):∀ p∈W,qA P w0 L p.2.1 p.2.2.1 p.2.2.2:=by
 induction W with
 | nil=>intro p hp; cases hp
 | cons q W ih =>
  intro p hp
  rcases List.mem_cons.1 hp with rfl|hp
  ·exact h.1
  ·exact ih h.2 p hp
theorem xS {i:Nat} {dst:Option Nat} {op:Op} {ty:TypeId} {pos:String} {af:Array Edge} {gd:Option (Nat × Bool)} (hi:ops[i]?=some ⟨dst,op,ty,pos,af,gd⟩) (heff:eff.contains i=true) (hw:kI ops g gd=some true) (hd:dst.all (·<n)=true) {post:Value→Hp→Prop} (h:EV P w0 L g op post)
  {W':kK} (hW':xF ops i W W')
  (hk:∀ v L',post v L'→uX P w0 L' W'∧xC P n w0 ops eff W' (listed.setIfInBounds i true) s Q (wR g dst v) L'):xC P n w0 ops eff W listed (i::s) Q g L:=by
 intro hok hc hq hsel hW a w ha hst
 simp only [uK,heff,Bool.and_eq_true,if_true,beq_iff_eq] at hok
 obtain ⟨h1,h3⟩:=hok
 have hr:i∈Region.ready .any ops listed:=by rw [h1]; simp
 refine ⟨fun e=>(by rw [e] at h1; cases h1),fun j hj=>?_⟩
 rw [h1,List.mem_singleton] at hj
 subst hj
 have key:∀ v w' L',post v L'→St w0 w' L'→(∀ p∈(W.at P).past ops j,p.2 w')∧WG P ops (lift n w0 Q) s.length ((W.at P).past ops j) (listed.setIfInBounds j true) (a.put dst v) w':=by
  intro v w' L' hp hst'
  obtain ⟨k1,k2⟩:=hk v L' hp
  have hh:=vY k1.all hst'
  exact ⟨fun p hp=>(hW'.at p hp).elim (hh p) (fun h=>h w'),WG_sub _ _ _ _ _ _ hW'.at (k2 h3 (hc.set hr) hq hsel k1.all _ w' (ha.put hd v) hst')⟩
 unfold wpOp
 simp only [hi,wB (o:=⟨dst,op,ty,pos,af,gd⟩) ha hw,if_true]
 left
 unfold Oper.wp
 obtain ⟨v,w',L',hrun,hp,hst'⟩:=h ⟨dst,op,ty,pos,af,gd⟩ a w n rfl ha hst
 rcases hrun with hrun|⟨hrun,rfl⟩<;>rw [hrun]<;>exact key _ w' L' hp hst'
theorem xU {i:Nat} {dst:Option Nat} {op:Op} {ty:TypeId} {pos:String} {af:Array Edge} {gd:Option (Nat × Bool)} (hi:ops[i]?=some ⟨dst,op,ty,pos,af,gd⟩) (heff:eff.contains i=true) (hw:kI ops g gd=some true) (hd:dst.all (·<n)=true) {k:FuncId} {args:List Value} (h:CV P g op k args)
  {pre R:Hp} {post:Value→Hp→Prop} (hs:yO P w0 k args pre post) [hL:yJ pre L R] {W':kK} (hW':xF ops i W W')
  (hk:∀ v h,post v h→uX P w0 (h+R) W'∧xC P n w0 ops eff W' (listed.setIfInBounds i true) s Q (wR g dst v) (h+R)):xC P n w0 ops eff W listed (i::s) Q g L:=by
 intro hok hc hq hsel hW a w ha hst
 simp only [uK,heff,Bool.and_eq_true,if_true,beq_iff_eq] at hok
 obtain ⟨h1,h3⟩:=hok
 have hr:i∈Region.ready .any ops listed:=by rw [h1]; simp
 refine ⟨fun e=>(by rw [e] at h1; cases h1),fun j hj=>?_⟩
 rw [h1,List.mem_singleton] at hj
 subst hj
 unfold wpOp
 simp only [hi,wB (o:=⟨dst,op,ty,pos,af,gd⟩) ha hw,if_true]
 left
 unfold Oper.wp
 rw [h ⟨dst,op,ty,pos,af,gd⟩ a w n M ha]
 rw [hL.out] at hst
 refine Calls.mono (hs w R hst) ?_
 rintro e w' ⟨v,h',rfl,hp,hst'⟩
 obtain ⟨k1,k2⟩:=hk v h' hp
 have hh:=vY k1.all hst'
 exact ⟨fun p hp=>(hW'.at p hp).elim (hh p) (fun h=>h w'),WG_sub _ _ _ _ _ _ hW'.at (k2 h3 (hc.set hr) hq hsel k1.all _ w' (ha.put hd v) hst')⟩
theorem W_not {i:Nat} {dst:Option Nat} {op:Op} {ty:TypeId} {pos:String} {af:Array Edge} {gd:Option (Nat × Bool)} (hi:ops[i]?=some ⟨dst,op,ty,pos,af,gd⟩) (heff:eff.contains i=true) (hw:kI ops g gd=some false) (hd:dst.all (·<n)=true)
  (hk:xC P n w0 ops eff W (listed.setIfInBounds i true) s Q (wR g dst undef) L):xC P n w0 ops eff W listed (i::s) Q g L:=by
 intro hok hc hq hsel hW a w ha hst
 simp only [uK,heff,Bool.and_eq_true,if_true,beq_iff_eq] at hok
 obtain ⟨h1,h3⟩:=hok
 have hr:i∈Region.ready .any ops listed:=by rw [h1]; simp
 refine ⟨fun e=>(by rw [e] at h1; cases h1),fun j hj=>?_⟩
 rw [h1,List.mem_singleton] at hj
 subst hj
 unfold wpOp
 simp only [hi,wB (o:=⟨dst,op,ty,pos,af,gd⟩) ha hw,Bool.false_eq_true,if_false]
 have hsub:∀ p∈(W.at P).past ops j,p∈W.at P∨∀ w,p.2 w:=fun p hp=>.inl (List.mem_filter.1 hp).1
 have hh:=vY hW hst
 exact ⟨fun p hp=>hh p (List.mem_filter.1 hp).1,WG_sub _ _ _ _ _ _ hsub (hk h3 (hc.set hr) hq hsel hW _ w (ha.put hd _) hst)⟩
end
class HasPt (b:Nat) (L:Hp) (o:outParam Obj) (R:outParam Hp):Prop where
 out:L=pt b o+R
instance (b:Nat) (o:Obj):HasPt b (pt b o) o 0:=⟨(yA _).symm⟩
instance (priority:=1100) (b:Nat) (o:Obj) (R:Hp):HasPt b (pt b o+R) o R:=⟨rfl⟩
instance (priority:=900) (b:Nat) (X Y:Hp) (o:Obj) (R:Hp) [h:HasPt b X o R]:HasPt b (X+Y) o (R+Y):=⟨by rw [h.out,yZ]⟩
instance (priority:=800) (b:Nat) (X Y:Hp) (o:Obj) (R:Hp) [h:HasPt b Y o R]:HasPt b (X+Y) o (X+R):=⟨by rw [h.out,← yZ,uQ X,yZ]⟩
def Reads (w0:World) (L:Hp) (ad:Addr) (v:Value):Prop:=∀ w,St w0 w L→w.cell? ad=some v
theorem St.at {w0 w:World} {L:Hp} {b:Nat} {o:Obj} {R:Hp} (h:St w0 w L) (hb:HasPt b L o R):w.heap[b]?=some o:=by
 have:=h.sat; rw [hb.out] at this; exact this.left.pt.2
theorem zS {w0:World} {L:Hp} {b off:Nat} {c:List Value} {e:TypeId} {fz:Nat × Nat} {R:Hp} [hb:HasPt b L (.cells c.toArray e fz) R] {v:Value} (hc:c[off]?=some v):Reads w0 L ⟨b,off,none⟩ v:=by
 intro w hst
 simp [World.cell?,hst.at hb,hc]
theorem reads_base {w0:World} {L:Hp} {ad:Addr} {v:Value} (h:w0.cell? ad=some v):Reads w0 L ad v:=by
 intro w hst
 rw [hst.below.cell (World.block_lt_of_cell? w0 ad h)]
 exact h
theorem Reads.frame {w0:World} {X L R:Hp} [hf:yJ X L R] {ad:Addr} {v:Value} (h:Reads w0 X ad v):Reads w0 L ad v:=by
 intro w hst
 refine h w ?_
 rw [hf.out] at hst
 exact hst.left
theorem zG {P:Program} {w0:World} {L:Hp} {t:TypeId} {d:TypeDesc} [hu:Und P t d] (hd:gG d=true) {ad:Addr} {v:Value} (hr:Reads w0 L ad v):qA P w0 L t ad v:=by
 intro w hst
 have h1:=hr w hst
 have h2:=hu.out
 cases d<;>simp_all [loadVar,isAgg,run_underlying h2,gG,run_load]
theorem loads_agg {P:Program} {w0:World} {L:Hp} {t:TypeId} {d:TypeDesc} [hu:Und P t d] (hd:gG d=false) {sz by':Nat} {z:Value} [hi:Inf P t sz by' z] {ad:Addr} (vs:List Value) (hl:vs.length=sz)
  (hr:∀ j v,vs[j]?=some v→Reads w0 L (ad.add j) v):qA P w0 L t ad (.agg vs.toArray):=by
 intro w hst
 have h2:=hu.out
 obtain ⟨i,h3,h4,_⟩:=hi.out
 have h5:=run_loadCells_list (P:=P) w ad vs (fun j v hv=>hr j v hv w hst)
 rw [hl,← h4] at h5
 cases d<;>simp_all [loadVar,isAgg,run_underlying h2,gG,sizeOf,typeInfo]
theorem loads_aggR {P:Program} {w0:World} {L:Hp} {t:TypeId} {d:TypeDesc} [hu:Und P t d] (hd:gG d=false) {sz by':Nat} {z:Value} [hi:Inf P t sz by' z] {b off:Nat} (vs:List Value) (hl:vs.length=sz)
  (hr:∀ j v,vs[j]?=some v→Reads w0 L ⟨b,off+j,none⟩ v):qA P w0 L t ⟨b,off,none⟩ (.agg vs.toArray) :=
 loads_agg hd vs hl fun j v hv=>by
  have hadd:(⟨b,off,none⟩:Addr).add j=⟨b,off+j,none⟩:=by unfold Addr.add; split<;>simp_all
  rw [hadd]; exact hr j v hv
section
variable {P:Program} {w0:World} {L:Hp} {g:Env}
theorem pv_move {x:Operand} {v:Value} (hx:ev g x=some v):PV P g (.move x) v:=by
 intro o a w n ho ha; unfold execOp; simp only [ho,ha.ev hx,Sem.run_pure]
theorem pv_assign {x:Operand} {v:Value} (hx:ev g x=some v):PV P g (.assign x) v:=by
 intro o a w n ho ha; unfold execOp; simp only [ho,ha.ev hx,Sem.run_pure]
theorem pv_pick_t {c x y:Operand} {v:Value} (hc:ev g c=some (.bool true)) (hx:ev g x=some v):PV P g (.pick c x y) v:=by
 intro o a w n ho ha; unfold execOp; simp only [ho,ha.ev hc,ha.ev hx,asBool,pure_bind,Sem.run_pure,if_true]
theorem pv_pick_f {c x y:Operand} {v:Value} (hc:ev g c=some (.bool false)) (hy:ev g y=some v):PV P g (.pick c x y) v:=by
 intro o a w n ho ha; unfold execOp; simp only [ho,ha.ev hc,ha.ev hy,asBool,pure_bind,Sem.run_pure,Bool.false_eq_true,if_false]
theorem pv_nilCheck {x:Operand} {ad:Addr} (hx:ev g x=some (.pointer (some ad))):PV P g (.nilCheck x) (.pointer (some ad)):=by
 intro o a w n ho ha; unfold execOp; simp only [ho,ha.ev hx,Sem.run_pure]
theorem zZ {s:TypeId} {fs:Array Field} [hu:Und P s (.struct fs)] {x:Operand} {b off k:Nat} {nm tg pk:String} {ty:TypeId} {fo bo:Nat} {em:Bool} {sz by':Nat} {z:Value}
  (hx:ev g x=some (.pointer (some ⟨b,off,none⟩))) (hf:fs[k]?=some ⟨nm,ty,fo,em,tg,pk,bo⟩) [hi:Inf P ty sz by' z] (hsz:(sz==0)=false) :
  PV P g (.fieldAddr s x k) (.pointer (some ⟨b,off+fo,none⟩)):=by
 intro o a w n ho ha
 obtain ⟨i,h3,h4,_⟩:=hi.out
 have hne:¬ i.size=0:=by rw [h4]; simpa using hsz
 unfold execOp
 simp only [ho,ha.ev hx]
 have hadd:(⟨b,off,none⟩:Addr).add fo=⟨b,off+fo,none⟩:=by unfold Addr.add; split<;>simp_all
 simp [Instr.fieldAt,run_underlying hu.out,hf,Instr.sureAddr,fieldPlace,sizeOf,typeInfo,h3,hne,hadd]
theorem wT {t e:TypeId} [hu:Und P t (.slice e)] {sz by':Nat} {z:Value} [hi:Inf P e sz by' z] {x ix:Operand} {b off len cap:Nat} {k:IntKind} {i:Nat}
  (hx:ev g x=some (.slice (some ⟨b,off,none⟩) len cap)) (hix:ev g ix=some (.int k (i:Int))) (h1:i<len) :
  PV P g (.indexAddr t x ix) (.pointer (some ⟨b,off+i*sz,none⟩)):=by
 intro o a w n ho ha
 obtain ⟨j,h3,h4,_⟩:=hi.out
 unfold execOp
 simp only [ho,ha.ev hx,ha.ev hix]
 have hadd:(⟨b,off,none⟩:Addr).add (i*j.size)=⟨b,off+i*sz,none⟩:=by subst h4; unfold Addr.add; split<;>simp_all
 have hlt:(i:Int)<(len:Int):=by omega
 simp [Instr.indexAt,asIntOf,run_underlying hu.out,sizeOf,typeInfo,h3,hadd]
 intro h; omega
theorem pv_len {t e:TypeId} [hu:Und P t (.slice e)] {x:Operand} {ad:Option Addr} {len cap:Nat} (hx:ev g x=some (.slice ad len cap)) :
  PV P g (.call { callee:=.builtin .len,args:=#[x],argTypes:=#[t] }) (.int .i64 len):=by
 intro o a w n ho ha
 unfold execOp
 simp [ho,resolve,invoke,builtin,ha.ev hx,Builtin.len_,run_underlying hu.out,goInt]
theorem qK (n:Int) (h0:-9223372036854775808≤n) (h1:n≤9223372036854775807):IntKind.i64.wrap n=n:=IntWalk.i64_in n ⟨h0,h1⟩
theorem pv_not {x:Operand} {t:TypeId} {b:Bool} (hx:ev g x=some (.bool b)):PV P g (.unOp .not t x) (.bool (!b)):=by
 intro o a w n ho ha; unfold execOp; simp [ho,ha.ev hx,Op.unary]
theorem pv_extract {x:Operand} {i:Nat} {vs:Array Value} {v:Value} (hx:ev g x=some (.tuple vs)) (hv:vs[i]?=some v):PV P g (.extract x i) v:=by
 intro o a w n ho ha; unfold execOp; simp [ho,ha.ev hx,Instr.extract,hv]
theorem pv_makeFunc {k:Nat} {first:List Operand} {vs:List Value} (h:evs g first=some vs):PV P g (.makeFunc (.func k) first.toArray #[]) (.func (.func k) vs.toArray #[]):=by
 intro o a w n ho ha; unfold execOp
 simp [ho,Instr.makeFunc,ha.evs h]
def pureV (g:Env):Op→Option Value
 | .move x=>ev g x
 | .assign x=>ev g x
 | .nilCheck x=>match ev g x with
  | some (.pointer (some a))=>some (.pointer (some a))
  | _=>none
 | .pick c a b=>match ev g c with
  | some (.bool true)=>ev g a
  | some (.bool false)=>ev g b
  | _=>none
 | .unOp .not _ x=>match ev g x with
  | some (.bool b)=>some (.bool (!b))
  | _=>none
 | .extract x i=>match ev g x with
  | some (.tuple vs)=>vs.toList[i]?
  | _=>none
 | .makeFunc (.func k) first cap=>match cap.toList,evs g first.toList with
  | [],some vs=>some (.func (.func k) vs.toArray #[])
  | _,_=>none
 | _=>none
theorem pv_of {op:Op} {v:Value} (h:pureV g op=some v):PV P g op v:=by
 cases op with
 | move x=>exact pv_move h
 | assign x=>exact pv_assign h
 | nilCheck x =>
  simp only [pureV] at h
  split at h
  ·rename_i a e; simp only [Option.some.injEq] at h; subst h; exact pv_nilCheck e
  ·cases h
 | pick c a b =>
  simp only [pureV] at h
  split at h
  ·rename_i e; exact pv_pick_t e h
  ·rename_i e; exact pv_pick_f e h
  ·cases h
 | unOp u t x =>
  cases u<;>simp only [pureV] at h<;>try cases h
  split at h
  ·rename_i b e; simp only [Option.some.injEq] at h; subst h; exact pv_not e
  ·cases h
 | extract x i =>
  simp only [pureV] at h
  split at h
  ·rename_i vs e; exact pv_extract e (by simpa using h)
  ·cases h
 | makeFunc fn first cap =>
  cases fn<;>simp only [pureV] at h<;>try cases h
  split at h
  ·rename_i vs e1 e2
   simp only [Option.some.injEq] at h; subst h
   have hc:cap=#[]:=by apply Array.ext'; simpa using e1
   subst hc
   have:=pv_makeFunc (P:=P) (g:=g) (k:=‹_›) e2
   simpa using this
  ·cases h
 | _=>simp [pureV] at h
class Plc (P:Program) (t:TypeId) (pl:outParam (List (Nat × Nat))):Prop where
 out:∃ fs,P.underlying t=some (.struct fs)∧∀ w,(fs.mapM fun f=>(do pure (f.offset,← sizeOf f.type):Sem (Nat × Nat))).run P w=.ok pl.toArray w
def vD :Nat→List Value→List Value→List Value
 | _,[],cs=>cs
 | 0,x::v,_::cs=>x::vD 0 v cs
 | n+1,v,c::cs=>c::vD n v cs
 | _,_,[]=>[]
theorem dV (n:Nat) (cs:List Value):vD n [] cs=cs:=by cases n<;>cases cs<;>rfl
theorem splice_set :∀ (n:Nat) (x:Value) (v cs:List Value),vD n (x::v) cs=vD (n+1) v (cs.set n x)
 | 0,x,v,[]=>by cases v<;>rfl
 | 0,x,v,c::cs=>by cases v<;>first|rfl|(show x::vD 0 [] cs=x::cs; rw [dV])
 | n+1,x,v,[]=>by cases v<;>rfl
 | n+1,x,v,c::cs=>by
  show c::vD n (x::v) cs=_
  rw [splice_set n x v cs]
  cases v with
  | nil=>rw [dV,dV]; rfl
  | cons y v=>rfl
def fillL (pl:Nat→Option (Nat × Nat)):List Value→List (Nat × Value)→Option (List Value)
 | cells,[]=>some cells
 | cells,(i,v)::rest=>match pl i with
  | none=>none
  | some (off,size)=>if (v.cells.size==size&&decide (off+v.cells.size≤cells.length))=true then fillL pl (vD off v.cells.toList cells) rest else none
theorem foldl_splice :∀ (v:List Value) (off k:Nat) (cs:List Value),(v.zipIdx k).foldl (fun (cs:Array Value) (p:Value × Nat)=>cs.setIfInBounds (off+p.2) p.1) cs.toArray=(vD (off+k) v cs).toArray
 | [],off,k,cs=>by simp [dV]
 | x::v,off,k,cs=>by
  simp only [List.zipIdx_cons,List.foldl_cons,List.setIfInBounds_toArray]
  rw [foldl_splice v off (k+1) (cs.set (off+k) x),splice_set]
  rfl
theorem fill_eq (pl:Nat→Option (Nat × Nat)):∀ (parts:List (Nat × Value)) (cells out:List Value),fillL pl cells parts=some out→Instr.fill pl cells.toArray parts=some out.toArray
 | [],cells,out,h=>by simp only [fillL,Option.some.injEq] at h; subst h; rfl
 | (i,v)::rest,cells,out,h=>by
  simp only [fillL] at h
  unfold Instr.fill
  cases hp:pl i with
  | none=>simp [hp] at h
  | some p =>
   obtain ⟨off,size⟩:=p
   simp only [hp] at h ⊢
   split at h
   ·rename_i hc
    simp only [Bool.and_eq_true,beq_iff_eq,decide_eq_true_eq] at hc
    rw [if_neg (by simp [hc.1]; have:=hc.2; omega)]
    have e:=foldl_splice v.cells.toList off 0 cells
    have e2:(v.cells.zipIdx.foldl (fun (cs:Array Value) (p:Value × Nat)=>cs.setIfInBounds (off+p.2) p.1) cells.toArray)=(vD off v.cells.toList cells).toArray:=by
     rw [← Array.foldl_toList,Array.toList_zipIdx]; exact e
    rw [show (Array.foldl (fun cs x=>match x with|(c,j)=>cs.setIfInBounds (off+j) c) cells.toArray v.cells.zipIdx)=(vD off v.cells.toList cells).toArray from e2]
    exact fill_eq pl rest _ out h
   ·cases h
theorem zeros_eq (z:Array Value) (len sz:Nat) (hz:z.size=sz):(Array.range (len*sz)).map (z[· % z.size]!)=(List.replicate len z.toList).flatten.toArray:=by
 apply Array.ext'
 apply List.ext_getElem?
 intro j
 subst hz
 have hl:(List.replicate len z.toList).flatten.length=len*z.size:=by simp
 by_cases hj:j<len*z.size
 ·have hz0:0<z.size:=by
   rcases Nat.eq_zero_or_pos z.size with h|h
   ·rw [h] at hj; omega
   ·exact h
  have hr:j % z.size<z.size:=Nat.mod_lt _ hz0
  have hq:j / z.size<len:=Nat.div_lt_of_lt_mul (by rw [Nat.mul_comm]; exact hj)
  have e:(List.replicate len z.toList).flatten[j]?=z.toList[j % z.size]?:=by
   have key:∀ (len:Nat) (j:Nat),j<len*z.size→(List.replicate len z.toList).flatten[j]?=z.toList[j % z.size]?:=by
    intro len
    induction len with
    | zero=>intro j hj; omega
    | succ len ih =>
     intro j hj
     simp only [List.replicate_succ,List.flatten_cons]
     by_cases h:j<z.size
     ·rw [List.getElem?_append_left (by simpa using h),Nat.mod_eq_of_lt h]
     ·rw [List.getElem?_append_right (by simp; omega)]
      rw [Nat.succ_mul] at hj
      simp only [Array.length_toList]
      rw [ih (j - z.size) (by omega),← Nat.mod_eq_sub_mod (by omega)]
   exact key len j hj
  rw [List.toList_toArray,e]
  simp [hj,hr]
 ·have h1:((Array.range (len*z.size)).map (z[· % z.size]!)).toList.length≤j:=by simp; omega
  have h2:(List.replicate len z.toList).flatten.toArray.toList.length≤j:=by rw [List.toList_toArray,hl]; omega
  rw [List.getElem?_eq_none h1,List.getElem?_eq_none h2]
theorem wJ {t:TypeId} {pl:List (Nat × Nat)} [hpl:Plc P t pl] {sz by':Nat} {z:Value} [hi:Inf P t sz by' z] {parts:List (Nat × Operand)} {vs cells:List Value}
  (hp:evs g (parts.map (·.2))=some vs) (hfill:fillL (fun i=>pl[i]?) z.cells.toList ((parts.map (·.1)).zip vs)=some cells):PV P g (.build t parts.toArray) (.agg cells.toArray):=by
 intro o a w n ho ha
 obtain ⟨i,h1,h2,h3,h4⟩:=hi.out
 obtain ⟨fs,f1,f2⟩:=hpl.out
 have hparts:parts.map (fun (p:Nat × Operand)=>(p.1,a.eval p.2))=(parts.map (·.1)).zip vs:=by
  have:=ha.evs hp
  rw [← this]
  clear hp hfill this ho
  induction parts with
  | nil=>rfl
  | cons p l ih=>simp only [List.map_cons,List.zip_cons_cons,ih]
 have hf:=fill_eq _ _ _ _ hfill
 have hz:z.cells.toList.toArray=z.cells:=by simp
 rw [hz] at hf
 unfold execOp
 simp only [ho,Instr.build,zeroValue,typeInfo,Sem.run_bind,run_program,h1,h4,Sem.run_pure,Result.andThen_ok,run_underlying f1,List.map_toArray,hparts,f2,List.toList_toArray,List.getElem?_toArray,hf]
theorem yE {t:TypeId} {x:Operand} {ad:Addr} (hx:ev g x=some (.pointer (some ad))):LV g (.load t x) t ad:=by
 intro o a n ho ha; unfold execOp
 simp only [ho,ha.ev hx,Instr.loadAt,Instr.sureAddr,pure_bind]
section
variable {t ty:TypeId} {x y:Operand} {k:IntKind} {i j:Int}
theorem jQ (op:BinOp) (w:World):(eqGuard op t x y (.int k i) (.int k j)).run P w=.ok () w:=by
 unfold eqGuard; split<;>simp
theorem yS (hx:ev g x=some (.int k i)) (hy:ev g y=some (.int k j)):PV P g (.binOp .lss t x y ty) (.bool (decide (i<j))):=by
 intro o a w n ho ha
 unfold execOp
 simp only [ho,ha.ev hx,ha.ev hy,Sem.run_bind,jQ,Result.andThen_ok]
 simp [binOp,Op.intCmp]
theorem dD (hx:ev g x=some (.int k i)) (hy:ev g y=some (.int k j)):PV P g (.binOp .leq t x y ty) (.bool (decide (i≤j))):=by
 intro o a w n ho ha
 unfold execOp
 simp only [ho,ha.ev hx,ha.ev hy,Sem.run_bind,jQ,Result.andThen_ok]
 simp [binOp,Op.intCmp]
theorem kB (hx:ev g x=some (.int k i)) (hy:ev g y=some (.int k j)):PV P g (.binOp .gtr t x y ty) (.bool (decide (j<i))):=by
 intro o a w n ho ha
 unfold execOp
 simp only [ho,ha.ev hx,ha.ev hy,Sem.run_bind,jQ,Result.andThen_ok]
 simp [binOp,Op.intCmp]
theorem kQ (hx:ev g x=some (.int k i)) (hy:ev g y=some (.int k j)):PV P g (.binOp .geq t x y ty) (.bool (decide (j≤i))):=by
 intro o a w n ho ha
 unfold execOp
 simp only [ho,ha.ev hx,ha.ev hy,Sem.run_bind,jQ,Result.andThen_ok]
 simp [binOp,Op.intCmp]
theorem yK (hx:ev g x=some (.int k i)) (hy:ev g y=some (.int k j)):PV P g (.binOp .eql t x y ty) (.bool (decide (i=j))):=by
 intro o a w n ho ha
 unfold execOp
 simp only [ho,ha.ev hx,ha.ev hy,Sem.run_bind,jQ,Result.andThen_ok]
 simp [binOp,Op.intCmp]; rfl
theorem xZ (hx:ev g x=some (.int k i)) (hy:ev g y=some (.int k j)):PV P g (.binOp .neq t x y ty) (.bool (decide (i≠j))):=by
 intro o a w n ho ha
 unfold execOp
 simp only [ho,ha.ev hx,ha.ev hy,Sem.run_bind,jQ,Result.andThen_ok]
 simp [binOp,Op.intCmp,bne]; rfl
theorem pv_add_w (hx:ev g x=some (.int k i)) (hy:ev g y=some (.int k j)):PV P g (.binOp .add t x y ty) (.int k (k.wrap (i+j))):=by
 intro o a w n ho ha
 unfold execOp
 simp only [ho,ha.ev hx,ha.ev hy,Sem.run_bind,jQ,Result.andThen_ok]
 simp [binOp,Op.intArith]
theorem dE (hx:ev g x=some (.int .i64 i)) (hy:ev g y=some (.int .i64 j)) (h0:-9223372036854775808≤i+j) (h1:i+j≤9223372036854775807):PV P g (.binOp .add t x y ty) (.int .i64 (i+j)):=by
 have h:=pv_add_w (P:=P) (t:=t) (ty:=ty) hx hy
 rwa [qK _ h0 h1] at h
theorem pv_sub_w (hx:ev g x=some (.int k i)) (hy:ev g y=some (.int k j)):PV P g (.binOp .sub t x y ty) (.int k (k.wrap (i - j))):=by
 intro o a w n ho ha
 unfold execOp
 simp only [ho,ha.ev hx,ha.ev hy,Sem.run_bind,jQ,Result.andThen_ok]
 simp [binOp,Op.intArith]
theorem pv_sub (hx:ev g x=some (.int .i64 i)) (hy:ev g y=some (.int .i64 j)) (h0:-9223372036854775808≤i - j) (h1:i - j≤9223372036854775807):PV P g (.binOp .sub t x y ty) (.int .i64 (i - j)):=by
 have h:=pv_sub_w (P:=P) (t:=t) (ty:=ty) hx hy
 rwa [qK _ h0 h1] at h
theorem pv_mul_w (hx:ev g x=some (.int k i)) (hy:ev g y=some (.int k j)):PV P g (.binOp .mul t x y ty) (.int k (k.wrap (i*j))):=by
 intro o a w n ho ha
 unfold execOp
 simp only [ho,ha.ev hx,ha.ev hy,Sem.run_bind,jQ,Result.andThen_ok]
 simp [binOp,Op.intArith]
theorem pv_mul (hx:ev g x=some (.int .i64 i)) (hy:ev g y=some (.int .i64 j)) (h0:-9223372036854775808≤i*j) (h1:i*j≤9223372036854775807):PV P g (.binOp .mul t x y ty) (.int .i64 (i*j)):=by
 have h:=pv_mul_w (P:=P) (t:=t) (ty:=ty) hx hy
 rwa [qK _ h0 h1] at h
theorem pv_rem (hx:ev g x=some (.int k i)) (hy:ev g y=some (.int k j)) (h:j≠0):PV P g (.binOp .rem t x y ty) (.int k (i.tmod j)):=by
 intro o a w n ho ha
 unfold execOp
 simp only [ho,ha.ev hx,ha.ev hy,Sem.run_bind,jQ,Result.andThen_ok]
 simp [binOp,Op.intDiv,h]
theorem pv_quo (hx:ev g x=some (.int k i)) (hy:ev g y=some (.int k j)) (h:j≠0):PV P g (.binOp .quo t x y ty) (.int k (k.wrap (i.tdiv j))):=by
 intro o a w n ho ha
 unfold execOp
 simp only [ho,ha.ev hx,ha.ev hy,Sem.run_bind,jQ,Result.andThen_ok]
 simp [binOp,Op.intDiv,h]
theorem pv_xor (hx:ev g x=some (.int k i)) (hy:ev g y=some (.int k j)):PV P g (.binOp .xor t x y ty) (.int k (k.wrap (BitVec.ofInt k.bits i ^^^ BitVec.ofInt k.bits j).toNat)):=by
 intro o a w n ho ha
 unfold execOp
 simp only [ho,ha.ev hx,ha.ev hy,Sem.run_bind,jQ,Result.andThen_ok]
 simp [binOp,Op.intBits]
end
end
end Sl
end Go.Proofs.YtfahijncpmlhjaaGreat
namespace Go.Proofs.YtfahijncpmlhjaaGreat
open Go
namespace Sl
set_option maxRecDepth 100000
theorem mkI {t n b : Nat} {z : Value} (h1 : Tryz.prog.info? t = some (Tryz.types.getD t default) := by kernel_rfl) (h2 : (Tryz.types.getD t default).size = n := by kernel_rfl) (h3 : (Tryz.types.getD t default).bytes = b := by kernel_rfl) (h4 : (Tryz.types.getD t default).zero = some z := by kernel_rfl) : Inf Tryz.prog t n b z := ⟨_, h1, h2, h3, h4⟩
theorem mkF {k : Nat} {fn : _} (h : Tryz.prog.funcs[k]? = some fn) (h2 : (fn.name == "runtime.NumGoroutine") = false := by kernel_rfl) (h3 : fn.body.isNone = false := by kernel_rfl) : Fun Tryz.prog k := ⟨_, h, h2, h3⟩
abbrev und1 :=@Und.mk Tryz.prog 1 _ Tryz.underlying1
attribute [instance] und1
instance :Inf Tryz.prog 1 1 8 Value.nilFunc:=mkI
abbrev und3 :=@Und.mk Tryz.prog 3 _ Tryz.underlying3
attribute [instance] und3
instance :Inf Tryz.prog 3 1 8 (Value.int .i64 0):=mkI
abbrev und4 :=@Und.mk Tryz.prog 4 _ Tryz.underlying4
attribute [instance] und4
instance :Inf Tryz.prog 4 1 1 (Value.bool false):=mkI
abbrev und5 :=@Und.mk Tryz.prog 5 _ Tryz.underlying5
attribute [instance] und5
instance :Inf Tryz.prog 5 1 1 (Value.int .u8 0):=mkI
abbrev und9 :=@Und.mk Tryz.prog 9 _ Tryz.underlying9
attribute [instance] und9
abbrev und22 :=@Und.mk Tryz.prog 22 _ Tryz.underlying22
attribute [instance] und22
instance :Inf Tryz.prog 22 1 24 (Value.slice none 0 0):=mkI
abbrev und24 :=@Und.mk Tryz.prog 24 _ Tryz.underlying24
attribute [instance] und24
abbrev und25 :=@Und.mk Tryz.prog 25 _ Tryz.underlying25
attribute [instance] und25
instance :Inf Tryz.prog 25 1 8 (Value.int .i64 0):=mkI
abbrev und28 :=@Und.mk Tryz.prog 28 _ Tryz.underlying28
attribute [instance] und28
instance :Inf Tryz.prog 28 1 24 (Value.slice none 0 0):=mkI
abbrev und29 :=@Und.mk Tryz.prog 29 _ Tryz.underlying29
attribute [instance] und29
instance :Inf Tryz.prog 29 1 24 (Value.slice none 0 0):=mkI
abbrev und30 :=@Und.mk Tryz.prog 30 _ Tryz.underlying30
attribute [instance] und30
instance :Inf Tryz.prog 30 1 24 (Value.slice none 0 0):=mkI
abbrev und32 :=@Und.mk Tryz.prog 32 _ Tryz.underlying32
attribute [instance] und32
instance :Plc Tryz.prog 32 [(0,1),(1,1),(2,1),(3,1),(4,1),(5,1)]:=⟨_,Tryz.underlying32,fun _=>by kernel_rfl⟩
instance :Inf Tryz.prog 32 6 96 (Value.agg #[Value.int .i64 0,Value.int .i64 0,Value.int .i64 0,Value.slice none 0 0,Value.slice none 0 0,Value.slice none 0 0]):=mkI
abbrev und34 :=@Und.mk Tryz.prog 34 _ Tryz.underlying34
attribute [instance] und34
instance :Inf Tryz.prog 34 1 24 (Value.slice none 0 0):=mkI
abbrev und35 :=@Und.mk Tryz.prog 35 _ Tryz.underlying35
attribute [instance] und35
instance :Inf Tryz.prog 35 1 24 (Value.slice none 0 0):=mkI
abbrev und37 :=@Und.mk Tryz.prog 37 _ Tryz.underlying37
attribute [instance] und37
instance :Plc Tryz.prog 37 [(0,1),(1,1),(2,1)]:=⟨_,Tryz.underlying37,fun _=>by kernel_rfl⟩
instance :Inf Tryz.prog 37 3 40 (Value.agg #[Value.int .i64 0,Value.int .i64 0,Value.slice none 0 0]):=mkI
abbrev und41 :=@Und.mk Tryz.prog 41 _ Tryz.underlying41
attribute [instance] und41
instance :Plc Tryz.prog 41 [(0,1),(1,1),(2,1),(3,1),(4,1),(5,1),(6,1),(7,1),(8,1),(9,1),(10,1),(11,1),(12,1)]:=⟨_,Tryz.underlying41,fun _=>by kernel_rfl⟩
instance :Inf Tryz.prog 41 13 120 (Value.agg #[Value.int .i64 0,Value.int .i64 0,Value.int .i64 0,Value.int .i64 0,Value.int .i64 0,Value.int .i64 0,Value.int .i64 0,Value.int .i64 0,Value.int .i64 0,Value.int .i64 0,Value.int .i64 0,Value.int .i64 0,Value.slice none 0 0]):=mkI
abbrev und44 :=@Und.mk Tryz.prog 44 _ Tryz.underlying44
attribute [instance] und44
instance :Plc Tryz.prog 44 [(0,1),(1,1)]:=⟨_,Tryz.underlying44,fun _=>by kernel_rfl⟩
instance :Inf Tryz.prog 44 2 32 (Value.agg #[Value.int .i64 0,Value.slice none 0 0]):=mkI
abbrev und47 :=@Und.mk Tryz.prog 47 _ Tryz.underlying47
attribute [instance] und47
abbrev und52 :=@Und.mk Tryz.prog 52 _ Tryz.underlying52
attribute [instance] und52
instance :Plc Tryz.prog 52 [(0,1),(1,1),(2,1)]:=⟨_,Tryz.underlying52,fun _=>by kernel_rfl⟩
instance :Inf Tryz.prog 52 3 40 (Value.agg #[Value.int .i64 0,Value.int .i64 0,Value.slice none 0 0]):=mkI
abbrev und53 :=@Und.mk Tryz.prog 53 _ Tryz.underlying53
attribute [instance] und53
instance :Inf Tryz.prog 53 1 24 (Value.slice none 0 0):=mkI
abbrev und55 :=@Und.mk Tryz.prog 55 _ Tryz.underlying55
attribute [instance] und55
instance :Plc Tryz.prog 55 [(0,1),(1,1),(2,1),(3,1),(4,1),(5,1),(6,1),(7,1),(8,1),(9,1),(10,1),(11,1),(12,1),(13,1),(14,1),(15,1),(16,1)]:=⟨_,Tryz.underlying55,fun _=>by kernel_rfl⟩
instance :Inf Tryz.prog 55 17 168 (Value.agg #[Value.int .i64 0,Value.int .i64 0,Value.int .i64 0,Value.int .i64 0,Value.int .i64 0,Value.int .i64 0,Value.int .i64 0,Value.int .i64 0,Value.int .i64 0,Value.int .i64 0,Value.int .i64 0,Value.int .i64 0,Value.int .i64 0,Value.int .i64 0,Value.bool false,Value.slice none 0 0,Value.slice none 0 0]):=mkI
abbrev und57 :=@Und.mk Tryz.prog 57 _ Tryz.underlying57
attribute [instance] und57
instance :Inf Tryz.prog 57 34 336 (Value.agg #[Value.int .i64 0,Value.int .i64 0,Value.int .i64 0,Value.int .i64 0,Value.int .i64 0,Value.int .i64 0,Value.int .i64 0,Value.int .i64 0,Value.int .i64 0,Value.int .i64 0,Value.int .i64 0,Value.int .i64 0,Value.int .i64 0,Value.slice none 0 0,Value.int .i64 0,Value.int .i64 0,Value.slice none 0 0,Value.int .i64 0,Value.int .i64 0,Value.int .i64 0,Value.int .i64 0,Value.int .i64 0,Value.int .i64 0,Value.int .i64 0,Value.int .i64 0,Value.int .i64 0,Value.int .i64 0,Value.int .i64 0,Value.int .i64 0,Value.int .i64 0,Value.int .i64 0,Value.bool false,Value.slice none 0 0,Value.slice none 0 0]):=mkI
abbrev und61 :=@Und.mk Tryz.prog 61 _ Tryz.underlying61
attribute [instance] und61
instance :Inf Tryz.prog 61 1 24 (Value.slice none 0 0):=mkI
abbrev und63 :=@Und.mk Tryz.prog 63 _ Tryz.underlying63
attribute [instance] und63
instance :Plc Tryz.prog 63 [(0,1),(1,1),(2,1),(3,1),(4,1),(5,1),(6,1),(7,1),(8,1),(9,1),(10,1),(11,1),(12,1),(13,1),(14,1),(15,1),(16,1)]:=⟨_,Tryz.underlying63,fun _=>by kernel_rfl⟩
instance :Inf Tryz.prog 63 17 200 (Value.agg #[Value.int .i64 0,Value.int .i64 0,Value.int .i64 0,Value.int .i64 0,Value.int .i64 0,Value.int .i64 0,Value.int .i64 0,Value.int .i64 0,Value.int .i64 0,Value.int .i64 0,Value.int .i64 0,Value.int .i64 0,Value.int .i64 0,Value.slice none 0 0,Value.slice none 0 0,Value.slice none 0 0,Value.slice none 0 0]):=mkI
abbrev und70 :=@Und.mk Tryz.prog 70 _ Tryz.underlying70
attribute [instance] und70
abbrev und71 :=@Und.mk Tryz.prog 71 _ Tryz.underlying71
attribute [instance] und71
abbrev und74 :=@Und.mk Tryz.prog 74 _ Tryz.underlying74
attribute [instance] und74
instance :Plc Tryz.prog 74 [(0,1),(1,1),(2,1),(3,1),(4,1)]:=⟨_,Tryz.underlying74,fun _=>by kernel_rfl⟩
instance :Inf Tryz.prog 74 5 40 (Value.agg #[Value.int .i64 0,Value.int .i64 0,Value.int .i64 0,Value.int .i64 0,Value.int .i64 0]):=mkI
abbrev und76 :=@Und.mk Tryz.prog 76 _ Tryz.underlying76
attribute [instance] und76
instance :Inf Tryz.prog 76 1 8 Value.nilFunc:=mkI
abbrev und78 :=@Und.mk Tryz.prog 78 _ Tryz.underlying78
attribute [instance] und78
instance :Plc Tryz.prog 78 [(0,1),(1,1)]:=⟨_,Tryz.underlying78,fun _=>by kernel_rfl⟩
instance :Inf Tryz.prog 78 2 16 (Value.agg #[Value.int .i64 0,Value.int .i64 0]):=mkI
abbrev und80 :=@Und.mk Tryz.prog 80 _ Tryz.underlying80
attribute [instance] und80
instance :Plc Tryz.prog 80 [(0,1),(1,1),(2,1),(3,1)]:=⟨_,Tryz.underlying80,fun _=>by kernel_rfl⟩
instance :Inf Tryz.prog 80 4 32 (Value.agg #[Value.int .i64 0,Value.int .i64 0,Value.int .i64 0,Value.int .i64 0]):=mkI
abbrev und84 :=@Und.mk Tryz.prog 84 _ Tryz.underlying84
attribute [instance] und84
instance :Inf Tryz.prog 84 1 8 (Value.map none):=mkI
abbrev und86 :=@Und.mk Tryz.prog 86 _ Tryz.underlying86
attribute [instance] und86
instance :Plc Tryz.prog 86 [(0,1),(1,1),(2,1),(3,1),(4,1)]:=⟨_,Tryz.underlying86,fun _=>by kernel_rfl⟩
instance :Inf Tryz.prog 86 5 40 (Value.agg #[Value.int .i64 0,Value.int .i64 0,Value.int .i64 0,Value.int .i64 0,Value.int .i64 0]):=mkI
abbrev und88 :=@Und.mk Tryz.prog 88 _ Tryz.underlying88
attribute [instance] und88
instance :Plc Tryz.prog 88 [(0,1),(1,1),(2,5)]:=⟨_,Tryz.underlying88,fun _=>by kernel_rfl⟩
instance :Inf Tryz.prog 88 7 72 (Value.agg #[Value.slice none 0 0,Value.int .i64 0,Value.int .i64 0,Value.int .i64 0,Value.int .i64 0,Value.int .i64 0,Value.int .i64 0]):=mkI
abbrev und90 :=@Und.mk Tryz.prog 90 _ Tryz.underlying90
attribute [instance] und90
instance :Inf Tryz.prog 90 1 24 (Value.slice none 0 0):=mkI
abbrev und91 :=@Und.mk Tryz.prog 91 _ Tryz.underlying91
attribute [instance] und91
instance :Inf Tryz.prog 91 1 24 (Value.slice none 0 0):=mkI
abbrev und92 :=@Und.mk Tryz.prog 92 _ Tryz.underlying92
attribute [instance] und92
instance :Inf Tryz.prog 92 1 8 (Value.pointer none):=mkI
abbrev und93 :=@Und.mk Tryz.prog 93 _ Tryz.underlying93
attribute [instance] und93
instance :Inf Tryz.prog 93 1 8 (Value.pointer none):=mkI
abbrev und95 :=@Und.mk Tryz.prog 95 _ Tryz.underlying95
attribute [instance] und95
instance :Plc Tryz.prog 95 [(0,6),(6,1),(7,1),(8,1),(9,1),(10,1),(11,7),(18,1),(19,1),(20,1),(21,1),(22,1),(23,1),(24,1),(25,1),(26,1),(27,1),(28,1),(29,1),(30,1),(31,1),(32,1),(33,1),(34,3),(37,1)]:=⟨_,Tryz.underlying95,fun _=>by kernel_rfl⟩
instance :Inf Tryz.prog 95 38 448 (Value.agg #[Value.int .i64 0,Value.int .i64 0,Value.int .i64 0,Value.slice none 0 0,Value.slice none 0 0,Value.slice none 0 0,Value.int .i64 0,Value.int .i64 0,Value.int .i64 0,Value.int .i64 0,Value.int .i64 0,Value.slice none 0 0,Value.int .i64 0,Value.int .i64 0,Value.int .i64 0,Value.int .i64 0,Value.int .i64 0,Value.int .i64 0,Value.bool false,Value.slice none 0 0,Value.map none,Value.slice none 0 0,Value.int .i64 0,Value.slice none 0 0,Value.pointer none,Value.bool false,Value.int .i64 0,Value.int .i64 0,Value.pointer none,Value.nilFunc,Value.pointer none,Value.int .i64 0,Value.int .i64 0,Value.slice none 0 0,Value.int .i64 0,Value.int .i64 0,Value.slice none 0 0,Value.bool false]):=mkI
abbrev und97 :=@Und.mk Tryz.prog 97 _ Tryz.underlying97
attribute [instance] und97
abbrev und105 :=@Und.mk Tryz.prog 105 _ Tryz.underlying105
attribute [instance] und105
instance :Inf Tryz.prog 105 1 8 (Value.pointer none):=mkI
abbrev und115 :=@Und.mk Tryz.prog 115 _ Tryz.underlying115
attribute [instance] und115
instance :Inf Tryz.prog 115 1 24 (Value.slice none 0 0):=mkI
abbrev und117 :=@Und.mk Tryz.prog 117 _ Tryz.underlying117
attribute [instance] und117
instance :Plc Tryz.prog 117 [(0,1),(1,1),(2,1),(3,1),(4,1),(5,1),(6,2)]:=⟨_,Tryz.underlying117,fun _=>by kernel_rfl⟩
instance :Inf Tryz.prog 117 8 128 (Value.agg #[Value.int .i64 0,Value.int .i64 0,Value.slice none 0 0,Value.slice none 0 0,Value.slice none 0 0,Value.slice none 0 0,Value.int .i64 0,Value.int .i64 0]):=mkI
abbrev und127 :=@Und.mk Tryz.prog 127 _ Tryz.underlying127
attribute [instance] und127
abbrev und142 :=@Und.mk Tryz.prog 142 _ Tryz.underlying142
attribute [instance] und142
instance :Inf Tryz.prog 142 1 8 (Value.pointer none):=mkI
abbrev und143 :=@Und.mk Tryz.prog 143 _ Tryz.underlying143
attribute [instance] und143
instance :Inf Tryz.prog 143 1 8 Value.nilFunc:=mkI
abbrev und145 :=@Und.mk Tryz.prog 145 _ Tryz.underlying145
attribute [instance] und145
instance :Plc Tryz.prog 145 [(0,1),(1,17),(18,1),(19,1),(20,1),(21,1)]:=⟨_,Tryz.underlying145,fun _=>by kernel_rfl⟩
instance :Inf Tryz.prog 145 22 240 (Value.agg #[Value.int .i64 0,Value.int .i64 0,Value.int .i64 0,Value.int .i64 0,Value.int .i64 0,Value.int .i64 0,Value.int .i64 0,Value.int .i64 0,Value.int .i64 0,Value.int .i64 0,Value.int .i64 0,Value.int .i64 0,Value.int .i64 0,Value.int .i64 0,Value.slice none 0 0,Value.slice none 0 0,Value.slice none 0 0,Value.slice none 0 0,Value.int .i64 0,Value.int .i64 0,Value.bool false,Value.nilFunc]):=mkI
abbrev und148 :=@Und.mk Tryz.prog 148 _ Tryz.underlying148
attribute [instance] und148
abbrev und150 :=@Und.mk Tryz.prog 150 _ Tryz.underlying150
attribute [instance] und150
instance :Plc Tryz.prog 150 [(0,1),(1,1)]:=⟨_,Tryz.underlying150,fun _=>by kernel_rfl⟩
instance :Inf Tryz.prog 150 2 32 (Value.agg #[Value.slice none 0 0,Value.bool false]):=mkI
abbrev und153 :=@Und.mk Tryz.prog 153 _ Tryz.underlying153
attribute [instance] und153
abbrev und157 :=@Und.mk Tryz.prog 157 _ Tryz.underlying157
attribute [instance] und157
instance :Inf Tryz.prog 157 1 8 (Value.pointer none):=mkI
abbrev und182 :=@Und.mk Tryz.prog 182 _ Tryz.underlying182
attribute [instance] und182
instance :Plc Tryz.prog 182 [(0,1),(1,1)]:=⟨_,Tryz.underlying182,fun _=>by kernel_rfl⟩
instance :Inf Tryz.prog 182 2 32 (Value.agg #[Value.int .i64 0,Value.slice none 0 0]):=mkI
abbrev und186 :=@Und.mk Tryz.prog 186 _ Tryz.underlying186
attribute [instance] und186
instance :Inf Tryz.prog 186 1 8 (Value.map none):=mkI
abbrev und187 :=@Und.mk Tryz.prog 187 _ Tryz.underlying187
attribute [instance] und187
instance :Inf Tryz.prog 187 1 8 (Value.map none):=mkI
abbrev und189 :=@Und.mk Tryz.prog 189 _ Tryz.underlying189
attribute [instance] und189
instance :Plc Tryz.prog 189 [(0,1),(1,1),(2,1),(3,1),(4,1),(5,1),(6,1),(7,1),(8,1),(9,1),(10,1)]:=⟨_,Tryz.underlying189,fun _=>by kernel_rfl⟩
instance :Inf Tryz.prog 189 11 104 (Value.agg #[Value.int .i64 0,Value.int .i64 0,Value.slice none 0 0,Value.int .i64 0,Value.map none,Value.map none,Value.bool false,Value.int .i64 0,Value.map none,Value.map none,Value.int .i64 0]):=mkI
abbrev und195 :=@Und.mk Tryz.prog 195 _ Tryz.underlying195
attribute [instance] und195
instance :Plc Tryz.prog 195 [(0,1),(1,1),(2,1)]:=⟨_,Tryz.underlying195,fun _=>by kernel_rfl⟩
instance :Inf Tryz.prog 195 3 56 (Value.agg #[Value.int .i64 0,Value.slice none 0 0,Value.slice none 0 0]):=mkI
abbrev und203 :=@Und.mk Tryz.prog 203 _ Tryz.underlying203
attribute [instance] und203
instance :Plc Tryz.prog 203 [(0,1),(1,1),(2,1)]:=⟨_,Tryz.underlying203,fun _=>by kernel_rfl⟩
instance :Inf Tryz.prog 203 3 40 (Value.agg #[Value.int .i64 0,Value.int .i64 0,Value.slice none 0 0]):=mkI
abbrev und207 :=@Und.mk Tryz.prog 207 _ Tryz.underlying207
attribute [instance] und207
instance :Inf Tryz.prog 207 5 5 (Value.agg #[Value.bool false,Value.bool false,Value.bool false,Value.bool false,Value.bool false]):=mkI
abbrev und218 :=@Und.mk Tryz.prog 218 _ Tryz.underlying218
attribute [instance] und218
instance :Plc Tryz.prog 218 [(0,1),(1,1)]:=⟨_,Tryz.underlying218,fun _=>by kernel_rfl⟩
instance :Inf Tryz.prog 218 2 32 (Value.agg #[Value.int .i64 0,Value.slice none 0 0]):=mkI
abbrev und235 :=@Und.mk Tryz.prog 235 _ Tryz.underlying235
attribute [instance] und235
abbrev und239 :=@Und.mk Tryz.prog 239 _ Tryz.underlying239
attribute [instance] und239
abbrev und249 :=@Und.mk Tryz.prog 249 _ Tryz.underlying249
attribute [instance] und249
instance :Plc Tryz.prog 249 [(0,1),(1,1),(2,1)]:=⟨_,Tryz.underlying249,fun _=>by kernel_rfl⟩
instance :Inf Tryz.prog 249 3 24 (Value.agg #[Value.int .i64 0,Value.int .i64 0,Value.int .i64 0]):=mkI
abbrev und250 :=@Und.mk Tryz.prog 250 _ Tryz.underlying250
attribute [instance] und250
instance :Inf Tryz.prog 250 1 24 (Value.slice none 0 0):=mkI
abbrev und253 :=@Und.mk Tryz.prog 253 _ Tryz.underlying253
attribute [instance] und253
instance :Plc Tryz.prog 253 [(0,1),(1,1),(2,1)]:=⟨_,Tryz.underlying253,fun _=>by kernel_rfl⟩
instance :Inf Tryz.prog 253 3 24 (Value.agg #[Value.int .i64 0,Value.int .i64 0,Value.int .i64 0]):=mkI
instance :Fun Tryz.prog 8:=mkF Tryz.func8
instance :Fun Tryz.prog 9:=mkF Tryz.func9
instance :Fun Tryz.prog 10:=mkF Tryz.func10
instance :Fun Tryz.prog 11:=mkF Tryz.func11
instance :Fun Tryz.prog 12:=mkF Tryz.func12
instance :Fun Tryz.prog 13:=mkF Tryz.func13
instance :Fun Tryz.prog 14:=mkF Tryz.func14
instance :Fun Tryz.prog 15:=mkF Tryz.func15
instance :Fun Tryz.prog 16:=mkF Tryz.func16
instance :Fun Tryz.prog 17:=mkF Tryz.func17
instance :Fun Tryz.prog 19:=mkF Tryz.func19
instance :Fun Tryz.prog 20:=mkF Tryz.func20
instance :Fun Tryz.prog 22:=mkF Tryz.func22
instance :Fun Tryz.prog 23:=mkF Tryz.func23
instance :Fun Tryz.prog 26:=mkF Tryz.func26
instance :Fun Tryz.prog 27:=mkF Tryz.func27
instance :Fun Tryz.prog 28:=mkF Tryz.func28
instance :Fun Tryz.prog 29:=mkF Tryz.func29
instance :Fun Tryz.prog 30:=mkF Tryz.func30
instance :Fun Tryz.prog 31:=mkF Tryz.func31
instance :Fun Tryz.prog 32:=mkF Tryz.func32
instance :Fun Tryz.prog 33:=mkF Tryz.func33
instance :Fun Tryz.prog 34:=mkF Tryz.func34
instance :Fun Tryz.prog 35:=mkF Tryz.func35
instance :Fun Tryz.prog 36:=mkF Tryz.func36
instance :Fun Tryz.prog 37:=mkF Tryz.func37
instance :Fun Tryz.prog 38:=mkF Tryz.func38
instance :Fun Tryz.prog 39:=mkF Tryz.func39
instance :Fun Tryz.prog 40:=mkF Tryz.func40
instance :Fun Tryz.prog 41:=mkF Tryz.func41
instance :Fun Tryz.prog 42:=mkF Tryz.func42
instance :Fun Tryz.prog 43:=mkF Tryz.func43
instance :Fun Tryz.prog 44:=mkF Tryz.func44
instance :Fun Tryz.prog 47:=mkF Tryz.func47
instance :Fun Tryz.prog 54:=mkF Tryz.func54
instance :Fun Tryz.prog 55:=mkF Tryz.func55
instance :Fun Tryz.prog 56:=mkF Tryz.func56
instance :Fun Tryz.prog 57:=mkF Tryz.func57
instance :Fun Tryz.prog 58:=mkF Tryz.func58
instance :Fun Tryz.prog 59:=mkF Tryz.func59
instance :Fun Tryz.prog 60:=mkF Tryz.func60
instance :Fun Tryz.prog 61:=mkF Tryz.func61
instance :Fun Tryz.prog 62:=mkF Tryz.func62
instance :Fun Tryz.prog 63:=mkF Tryz.func63
instance :Fun Tryz.prog 64:=mkF Tryz.func64
instance :Fun Tryz.prog 65:=mkF Tryz.func65
instance :Fun Tryz.prog 66:=mkF Tryz.func66
instance :Fun Tryz.prog 67:=mkF Tryz.func67
instance :Fun Tryz.prog 68:=mkF Tryz.func68
instance :Fun Tryz.prog 69:=mkF Tryz.func69
instance :Fun Tryz.prog 70:=mkF Tryz.func70
instance :Fun Tryz.prog 71:=mkF Tryz.func71
instance :Fun Tryz.prog 72:=mkF Tryz.func72
instance :Fun Tryz.prog 73:=mkF Tryz.func73
instance :Fun Tryz.prog 74:=mkF Tryz.func74
instance :Fun Tryz.prog 75:=mkF Tryz.func75
instance :Fun Tryz.prog 76:=mkF Tryz.func76
instance :Fun Tryz.prog 77:=mkF Tryz.func77
instance :Fun Tryz.prog 78:=mkF Tryz.func78
instance :Fun Tryz.prog 79:=mkF Tryz.func79
instance :Fun Tryz.prog 80:=mkF Tryz.func80
instance :Fun Tryz.prog 81:=mkF Tryz.func81
instance :Fun Tryz.prog 82:=mkF Tryz.func82
instance :Fun Tryz.prog 83:=mkF Tryz.func83
instance :Fun Tryz.prog 84:=mkF Tryz.func84
instance :Fun Tryz.prog 85:=mkF Tryz.func85
instance :Fun Tryz.prog 86:=mkF Tryz.func86
instance :Fun Tryz.prog 87:=mkF Tryz.func87
instance :Fun Tryz.prog 88:=mkF Tryz.func88
instance :Fun Tryz.prog 89:=mkF Tryz.func89
instance :Fun Tryz.prog 90:=mkF Tryz.func90
instance :Fun Tryz.prog 91:=mkF Tryz.func91
instance :Fun Tryz.prog 92:=mkF Tryz.func92
instance :Fun Tryz.prog 93:=mkF Tryz.func93
instance :Fun Tryz.prog 94:=mkF Tryz.func94
instance :Fun Tryz.prog 95:=mkF Tryz.func95
instance :Fun Tryz.prog 96:=mkF Tryz.func96
instance :Fun Tryz.prog 97:=mkF Tryz.func97
instance :Fun Tryz.prog 98:=mkF Tryz.func98
instance :Fun Tryz.prog 99:=mkF Tryz.func99
instance :Fun Tryz.prog 100:=mkF Tryz.func100
instance :Fun Tryz.prog 109:=mkF Tryz.func109
instance :Fun Tryz.prog 110:=mkF Tryz.func110
instance :Fun Tryz.prog 111:=mkF Tryz.func111
instance :Fun Tryz.prog 112:=mkF Tryz.func112
instance :Fun Tryz.prog 113:=mkF Tryz.func113
instance :Fun Tryz.prog 114:=mkF Tryz.func114
instance :Fun Tryz.prog 115:=mkF Tryz.func115
instance :Fun Tryz.prog 116:=mkF Tryz.func116
instance :Fun Tryz.prog 117:=mkF Tryz.func117
instance :Fun Tryz.prog 118:=mkF Tryz.func118
instance :Fun Tryz.prog 119:=mkF Tryz.func119
instance :Fun Tryz.prog 120:=mkF Tryz.func120
instance :Fun Tryz.prog 121:=mkF Tryz.func121
instance :Fun Tryz.prog 122:=mkF Tryz.func122
instance :Fun Tryz.prog 123:=mkF Tryz.func123
instance :Fun Tryz.prog 124:=mkF Tryz.func124
instance :Fun Tryz.prog 125:=mkF Tryz.func125
instance :Fun Tryz.prog 126:=mkF Tryz.func126
instance :Fun Tryz.prog 127:=mkF Tryz.func127
instance :Fun Tryz.prog 128:=mkF Tryz.func128
instance :Fun Tryz.prog 129:=mkF Tryz.func129
instance :Fun Tryz.prog 130:=mkF Tryz.func130
instance :Fun Tryz.prog 131:=mkF Tryz.func131
instance :Fun Tryz.prog 132:=mkF Tryz.func132
instance :Fun Tryz.prog 133:=mkF Tryz.func133
instance :Fun Tryz.prog 134:=mkF Tryz.func134
instance :Fun Tryz.prog 135:=mkF Tryz.func135
instance :Fun Tryz.prog 136:=mkF Tryz.func136
instance :Fun Tryz.prog 137:=mkF Tryz.func137
instance :Fun Tryz.prog 138:=mkF Tryz.func138
instance :Fun Tryz.prog 139:=mkF Tryz.func139
instance :Fun Tryz.prog 140:=mkF Tryz.func140
instance :Fun Tryz.prog 141:=mkF Tryz.func141
instance :Fun Tryz.prog 142:=mkF Tryz.func142
instance :Fun Tryz.prog 143:=mkF Tryz.func143
instance :Fun Tryz.prog 144:=mkF Tryz.func144
instance :Fun Tryz.prog 145:=mkF Tryz.func145
instance :Fun Tryz.prog 146:=mkF Tryz.func146
instance :Fun Tryz.prog 147:=mkF Tryz.func147
instance :Fun Tryz.prog 148:=mkF Tryz.func148
instance :Fun Tryz.prog 149:=mkF Tryz.func149
instance :Fun Tryz.prog 150:=mkF Tryz.func150
instance :Fun Tryz.prog 151:=mkF Tryz.func151
instance :Fun Tryz.prog 152:=mkF Tryz.func152
instance :Fun Tryz.prog 153:=mkF Tryz.func153
instance :Fun Tryz.prog 154:=mkF Tryz.func154
instance :Fun Tryz.prog 155:=mkF Tryz.func155
instance :Fun Tryz.prog 156:=mkF Tryz.func156
instance :Fun Tryz.prog 157:=mkF Tryz.func157
instance :Fun Tryz.prog 158:=mkF Tryz.func158
instance :Fun Tryz.prog 159:=mkF Tryz.func159
instance :Fun Tryz.prog 160:=mkF Tryz.func160
instance :Fun Tryz.prog 161:=mkF Tryz.func161
instance :Fun Tryz.prog 162:=mkF Tryz.func162
instance :Fun Tryz.prog 163:=mkF Tryz.func163
instance :Fun Tryz.prog 164:=mkF Tryz.func164
instance :Fun Tryz.prog 165:=mkF Tryz.func165
instance :Fun Tryz.prog 166:=mkF Tryz.func166
instance :Fun Tryz.prog 167:=mkF Tryz.func167
instance :Fun Tryz.prog 168:=mkF Tryz.func168
instance :Fun Tryz.prog 169:=mkF Tryz.func169
instance :Fun Tryz.prog 170:=mkF Tryz.func170
instance :Fun Tryz.prog 171:=mkF Tryz.func171
instance :Fun Tryz.prog 172:=mkF Tryz.func172
instance :Fun Tryz.prog 173:=mkF Tryz.func173
instance :Fun Tryz.prog 174:=mkF Tryz.func174
instance :Fun Tryz.prog 175:=mkF Tryz.func175
instance :Fun Tryz.prog 176:=mkF Tryz.func176
instance :Fun Tryz.prog 177:=mkF Tryz.func177
instance :Fun Tryz.prog 178:=mkF Tryz.func178
instance :Fun Tryz.prog 179:=mkF Tryz.func179
instance :Fun Tryz.prog 180:=mkF Tryz.func180
instance :Fun Tryz.prog 181:=mkF Tryz.func181
instance :Fun Tryz.prog 202:=mkF Tryz.func202
instance :Fun Tryz.prog 203:=mkF Tryz.func203
instance :Fun Tryz.prog 204:=mkF Tryz.func204
instance :Fun Tryz.prog 205:=mkF Tryz.func205
instance :Fun Tryz.prog 206:=mkF Tryz.func206
instance :Fun Tryz.prog 207:=mkF Tryz.func207
instance :Fun Tryz.prog 208:=mkF Tryz.func208
instance :Fun Tryz.prog 209:=mkF Tryz.func209
instance :Fun Tryz.prog 210:=mkF Tryz.func210
instance :Fun Tryz.prog 211:=mkF Tryz.func211
instance :Fun Tryz.prog 212:=mkF Tryz.func212
instance :Fun Tryz.prog 213:=mkF Tryz.func213
instance :Fun Tryz.prog 214:=mkF Tryz.func214
instance :Fun Tryz.prog 215:=mkF Tryz.func215
instance :Fun Tryz.prog 216:=mkF Tryz.func216
instance :Fun Tryz.prog 217:=mkF Tryz.func217
instance :Fun Tryz.prog 218:=mkF Tryz.func218
instance :Fun Tryz.prog 219:=mkF Tryz.func219
instance :Fun Tryz.prog 220:=mkF Tryz.func220
instance :Fun Tryz.prog 221:=mkF Tryz.func221
instance :Fun Tryz.prog 222:=mkF Tryz.func222
instance :Fun Tryz.prog 223:=mkF Tryz.func223
instance :Fun Tryz.prog 224:=mkF Tryz.func224
instance :Fun Tryz.prog 227:=mkF Tryz.func227
instance :Fun Tryz.prog 228:=mkF Tryz.func228
instance :Fun Tryz.prog 229:=mkF Tryz.func229
instance :Fun Tryz.prog 230:=mkF Tryz.func230
instance :Fun Tryz.prog 231:=mkF Tryz.func231
instance :Fun Tryz.prog 232:=mkF Tryz.func232
instance :Fun Tryz.prog 233:=mkF Tryz.func233
instance :Fun Tryz.prog 234:=mkF Tryz.func234
instance :Fun Tryz.prog 235:=mkF Tryz.func235
instance :Fun Tryz.prog 236:=mkF Tryz.func236
instance :Fun Tryz.prog 237:=mkF Tryz.func237
instance :Fun Tryz.prog 238:=mkF Tryz.func238
instance :Fun Tryz.prog 239:=mkF Tryz.func239
instance :Fun Tryz.prog 240:=mkF Tryz.func240
instance :Fun Tryz.prog 241:=mkF Tryz.func241
instance :Fun Tryz.prog 242:=mkF Tryz.func242
instance :Fun Tryz.prog 243:=mkF Tryz.func243
instance :Fun Tryz.prog 244:=mkF Tryz.func244
instance :Fun Tryz.prog 245:=mkF Tryz.func245
instance :Fun Tryz.prog 246:=mkF Tryz.func246
instance :Fun Tryz.prog 247:=mkF Tryz.func247
instance :Fun Tryz.prog 248:=mkF Tryz.func248
instance :Fun Tryz.prog 278:=mkF Tryz.func278
instance :Fun Tryz.prog 279:=mkF Tryz.func279
instance :Fun Tryz.prog 280:=mkF Tryz.func280
instance :Fun Tryz.prog 281:=mkF Tryz.func281
instance :Fun Tryz.prog 283:=mkF Tryz.func283
instance :Fun Tryz.prog 284:=mkF Tryz.func284
instance :Fun Tryz.prog 285:=mkF Tryz.func285
instance :Fun Tryz.prog 286:=mkF Tryz.func286
instance :Fun Tryz.prog 287:=mkF Tryz.func287
instance :Fun Tryz.prog 289:=mkF Tryz.func289
instance :Fun Tryz.prog 290:=mkF Tryz.func290
instance :Fun Tryz.prog 291:=mkF Tryz.func291
instance :Fun Tryz.prog 292:=mkF Tryz.func292
instance :Fun Tryz.prog 293:=mkF Tryz.func293
instance :Fun Tryz.prog 294:=mkF Tryz.func294
instance :Fun Tryz.prog 295:=mkF Tryz.func295
instance :Fun Tryz.prog 296:=mkF Tryz.func296
instance :Fun Tryz.prog 297:=mkF Tryz.func297
instance :Fun Tryz.prog 298:=mkF Tryz.func298
instance :Fun Tryz.prog 299:=mkF Tryz.func299
instance :Fun Tryz.prog 300:=mkF Tryz.func300
instance :Fun Tryz.prog 301:=mkF Tryz.func301
instance :Fun Tryz.prog 302:=mkF Tryz.func302
instance :Fun Tryz.prog 303:=mkF Tryz.func303
instance :Fun Tryz.prog 304:=mkF Tryz.func304
instance :Fun Tryz.prog 342:=mkF Tryz.func342
instance :Fun Tryz.prog 343:=mkF Tryz.func343
instance :Fun Tryz.prog 345:=mkF Tryz.func345
instance :Fun Tryz.prog 353:=mkF Tryz.func353
end Sl
end Go.Proofs.YtfahijncpmlhjaaGreat
namespace Go.Proofs.YtfahijncpmlhjaaGreat
open Go Go.RowKit
namespace Sl
section
variable {P:Program} {w0:World} {L:Hp} {g:Env}
theorem run_newVar (t:TypeId) (v:Value) (w:World):(newVar t v).run P w=.ok ⟨w.heap.size,0,none⟩ (w.alloc (.cells v.cells t)):=by
 rfl
theorem ev_box {t:TypeId} {x:Operand} {v:Value} (hx:ev g x=some v) :
  EV P w0 L g (.box t x) fun u L'=>∃ b,u=.pointer (some ⟨b,0,none⟩)∧L'=pt b (.cells v.cells t)+L:=by
 intro o a w n ho ha hst
 refine ⟨.pointer (some ⟨w.heap.size,0,none⟩),w.alloc (.cells v.cells t),_,.inl ?_,⟨_,rfl,rfl⟩,hst.alloc _⟩
 unfold execOp
 simp only [ho,ha.ev hx,Instr.box,Sem.run_bind,run_newVar,Result.andThen_ok,Sem.run_pure]
theorem ev_alloc {t:TypeId} {sz by':Nat} {z:Value} [hi:Inf P t sz by' z] :
  EV P w0 L g (.alloc t) fun u L'=>∃ b,u=.pointer (some ⟨b,0,none⟩)∧L'=pt b (.cells z.cells t)+L:=by
 intro o a w n ho ha hst
 obtain ⟨i,h1,h2,h3,h4⟩:=hi.out
 refine ⟨.pointer (some ⟨w.heap.size,0,none⟩),w.alloc (.cells z.cells t),_,.inl ?_,⟨_,rfl,rfl⟩,hst.alloc _⟩
 unfold execOp
 simp only [ho,Instr.alloc,zeroValue,typeInfo,Sem.run_bind,run_program,h1,h4,run_newVar,Result.andThen_ok,Sem.run_pure]
theorem map_pairs (f:Operand→Value):∀ (parts:List (Nat × Operand)),parts.map (fun (p:Nat × Operand)=>(p.1,f p.2))=(parts.map (·.1)).zip ((parts.map (·.2)).map f)
 | []=>rfl
 | p::l=>by simp only [List.map_cons,List.zip_cons_cons,map_pairs f l]
theorem xV {t e:TypeId} [hu:Und P t (.slice e)] {sz by':Nat} {z:Value} [hi:Inf P e sz by' z] {len:Nat} {parts:List (Nat × Operand)} {vs cells:List Value}
  (hp:evs g (parts.map (·.2))=some vs) (hlim:decide (len*sz≤16777216)=true) (hz:(z.cells.size==sz)=true)
  (hfill':fillL (fun i=>some (i*sz,sz)) (List.replicate len z.cells.toList).flatten ((parts.map (·.1)).zip vs)=some cells) :
  EV P w0 L g (.buildSlice t len parts.toArray) fun u L'=>∃ b,u=.slice (some ⟨b,0,none⟩) len len∧L'=pt b (.cells cells.toArray e (0,0))+L:=by
 intro o a w n ho ha hst
 obtain ⟨i,h1,h2,h3,h4⟩:=hi.out
 have hfill:=fill_eq _ _ _ _ hfill'
 rw [← zeros_eq z.cells len sz (by simpa using hz)] at hfill
 refine ⟨.slice (some ⟨w.heap.size,0,none⟩) len len,w.alloc (.cells cells.toArray e),_,.inl ?_,⟨_,rfl,rfl⟩,hst.alloc _⟩
 have hparts:parts.map (fun (p:Nat × Operand)=>(p.1,a.eval p.2))=(parts.map (·.1)).zip vs:=by
  have:=ha.evs hp
  rw [map_pairs,this]
 have hlim':¬ (len*sz > 2 ^ 24):=by have:=of_decide_eq_true hlim; omega
 have hnew:∀ c:Array Value,(newRow e c).run P w=.ok ⟨w.heap.size,0,none⟩ (w.alloc (.cells c e)):=fun _=>rfl
 unfold execOp
 simp only [ho,Instr.buildSlice,Sem.run_bind,run_underlying hu.out,Result.andThen_ok,sizeOf,typeInfo,run_program,h1,Sem.run_pure,h2,hlim',if_false,List.map_toArray,hparts,List.toList_toArray]
 by_cases h0:len*sz=0
 ·have hf':Instr.fill (fun i=>some (i*sz,sz)) ((Array.range (len*sz)).map ((#[]:Array Value)[· % (#[]:Array Value).size]!)) ((parts.map (·.1)).zip vs)=some cells.toArray:=by
   have er:Array.range 0=#[]:=rfl
   rw [← hfill,h0,er]; simp only [List.map_nil,Array.map_empty]
  simp only [h0,if_true,Sem.run_pure,Result.andThen_ok,Sem.run_bind]
  rw [h0] at hf'
  rw [hf']
  simp only [hnew,Sem.run_bind,Result.andThen_ok,Sem.run_pure]
 ·simp only [h0,if_false,zeroValue,typeInfo,Sem.run_bind,run_program,h1,h4,Sem.run_pure,Result.andThen_ok,hfill,hnew]
theorem run_storeVar1 {t:TypeId} {sz by':Nat} {z:Value} [hi:Inf P t sz by' z] (hsz:(sz==1)=true) {b off:Nat} {c:Array Value} {e:TypeId} {v u:Value} (hv:v.oneCell'=true) {w:World}
  (hb:w.heap[b]?=some (.cells c e (0,0))) (hc:c[off]?=some u) :
  (storeVar t ⟨b,off,none⟩ v).run P w=.ok () (w.setCell ⟨b,off,none⟩ v):=by
 obtain ⟨i,h1,h2,h3,h4⟩:=hi.out
 have hcs:v.cells=#[v]:=by cases v<;>first|rfl|simp [Value.oneCell'] at hv
 have hsz':sz=1:=by simpa using hsz
 have hcell:w.cell? ⟨b,off,none⟩=some u:=by simp [World.cell?,hb,hc]
 have hfr:w.frozen? ⟨b,off,none⟩=false:=by simp [World.frozen?,hb]
 have hadd:(⟨b,off,none⟩:Addr).add 0=⟨b,off,none⟩:=rfl
 simp [storeVar,sizeOf,typeInfo,h1,h2,hsz',hcs,storeCells,hadd,run_store,hv,hcell,hfr]
theorem St.store {w:World} {b off:Nat} {c:List Value} {e:TypeId} {R:Hp} (h:St w0 w (pt b (.cells c.toArray e (0,0))+R)) (v:Value) :
  St w0 (w.setCell ⟨b,off,none⟩ v) (pt b (.cells (c.set off v).toArray e (0,0))+R):=by
 have hb:=h.sat.left.pt.2
 refine h.set ?_ (fun k hk=>Below.heap_setCell _ _ _ _ hk) (by simp [World.setCell]) M M M
 simp only [World.setCell,Array.getElem?_modify,if_true,hb]
 simp
theorem kA {t:TypeId} {sz by':Nat} {z:Value} [hi:Inf P t sz by' z] {x y:Operand} {b off:Nat} {c:List Value} {e:TypeId} {v u:Value} {R:Hp}
  (hx:ev g x=some (.pointer (some ⟨b,off,none⟩))) (hy:ev g y=some v) (hsz:(sz==1)=true) (hv:v.oneCell'=true) [hb:HasPt b L (.cells c.toArray e (0,0)) R] (hc:c[off]?=some u) {c':List Value} (hc':c.set off v=c') :
  EV P w0 L g (.store t x y) fun u L'=>L'=pt b (.cells c'.toArray e (0,0))+R:=by
 intro o a w n ho ha hst
 subst hc'
 have hhb:=hst.at hb
 refine ⟨undef,w.setCell ⟨b,off,none⟩ v,_,.inr ⟨?_,rfl⟩,rfl,St.store (by rw [hb.out] at hst; exact hst) v⟩
 unfold execOp
 simp only [ho,ha.ev hx,ha.ev hy,Instr.storeAt,Instr.sureAddr,pure_bind,Sem.run_bind,run_storeVar1 hsz hv hhb (by simpa using hc),Result.andThen_ok,Sem.run_pure]
theorem zQ {f:Operand} {xs:List Operand} {ts:Array TypeId} {k:FuncId} {first cap:Array Value} {vs args:List Value} [hf:Fun P k]
  (h:ev g f=some (.func (.func k) first cap)) (hxs:evs g xs=some vs) (he:first.toList++vs++cap.toList=args) :
  CV P g (.call { callee:=.value f,args:=xs.toArray,argTypes:=ts }) k args:=by
 intro o a w n ho ha
 obtain ⟨fn,h1,h2,h3⟩:=hf.out
 subst he
 unfold execOp
 have hargs:(xs.toArray.map a.eval)=vs.toArray:=by rw [List.map_toArray,ha.evs hxs]
 simp only [ho,resolve,ha.ev h,hargs,Deferred.ofValue,pure_bind,invoke,callFunc,Sem.run_bind,run_program,Result.andThen_ok,h1,h2,h3,Bool.false_eq_true,if_false,Sem.run_pure]
 congr 2
 simp
end
section
variable {P:Program} {w0:World} {L:Hp} {g:Env}
theorem run_askRoom (n:Nat) (w:World):(askRoom n).run P w=.ok () w:=by unfold askRoom; split<;>rfl
theorem ev_makeSlice {t e:TypeId} [hu:Und P t (.slice e)] {sz by':Nat} {z:Value} [hi:Inf P e sz by' z] {x y:Operand} {n:Nat}
  (hx:ev g x=some (.int .i64 (n:Int))) (hy:ev g y=some (.int .i64 (n:Int))) (hz:(z.cells.size==sz)=true) (hb:by'*n≤281474976710656) (hn:n≤9223372036854775807) :
  EV P w0 L g (.makeSlice t x y) fun u L'=>∃ b,u=.slice (some ⟨b,0,none⟩) n n∧L'=pt b (.cells (List.replicate n z.cells.toList).flatten.toArray e (0,0))+L:=by
 intro o a w n' ho ha hst
 obtain ⟨i,h1,h2,h3,h4⟩:=hi.out
 refine ⟨.slice (some ⟨w.heap.size,0,none⟩) n n,w.alloc (.cells (List.replicate n z.cells.toList).flatten.toArray e),_,.inl ?_,⟨_,rfl,rfl⟩,hst.alloc _⟩
 have hw:IntKind.i64.wrap (n:Int)=(n:Int):=IntWalk.i64_in _ ⟨by omega,by omega⟩
 have hzs:z.cells.size=sz:=by simpa using hz
 have hnew:∀ c:Array Value,(newRow e c).run P w=.ok ⟨w.heap.size,0,none⟩ (w.alloc (.cells c e)):=fun _=>rfl
 have hbi:¬ ((i.bytes:Int)*(n:Int) > 2 ^ 48):=by
  rw [h3]
  have:((by'*n:Nat):Int)≤281474976710656:=by omega
  rw [Int.natCast_mul] at this
  omega
 have hcells:∀ zz:Array Value,(n*i.size≠0→zz=z.cells)→((Array.range (n*i.size)).map (zz[· % zz.size]!))=(List.replicate n z.cells.toList).flatten.toArray:=by
  intro zz hzz
  by_cases h0:n*i.size=0
  ·rw [h0]
   have:(List.replicate n z.cells.toList).flatten=[]:=by
    apply List.eq_nil_of_length_eq_zero
    simp [hzs,← h2,h0]
   rw [this]; have er:Array.range 0=#[]:=rfl
   rw [er]; simp
  ·rw [hzz h0,← zeros_eq z.cells n i.size (by rw [hzs,h2])]
 unfold execOp
 simp only [ho,ha.ev hx,ha.ev hy,Instr.makeSlice,Sem.run_bind,run_underlying hu.out,Result.andThen_ok,asInt,asIntOf,Sem.run_pure,typeInfo,run_program,h1,hw]
 have hc1:((n:Int)<0)=False:=by simp
 have hc2:((n:Int) > (n:Int))=False:=by simp
 simp only [hc1,hc2,hbi,decide_false,Bool.or_self,Bool.false_eq_true,if_false,Sem.run_bind,Int.toNat_natCast,run_askRoom,sizeOf,typeInfo,run_program,h1,Sem.run_pure,Result.andThen_ok]
 by_cases h0:n*i.size=0
 ·simp only [h0,if_true,Sem.run_pure,Result.andThen_ok,Sem.run_bind]
  have:=hcells #[] (fun h=>absurd h0 h)
  rw [h0] at this
  simp only [this,hnew,Result.andThen_ok,Sem.run_pure]
 ·have:=hcells z.cells (fun _=>rfl)
  simp only [h0,if_false,zeroValue,typeInfo,Sem.run_bind,run_program,h1,h4,Sem.run_pure,Result.andThen_ok,this,hnew]
theorem pv_slice_h {t e:TypeId} [hu:Und P t (.slice e)] {sz by':Nat} {z:Value} [hi:Inf P e sz by' z] {x y:Operand} {ad:Option Addr} {len cap m:Nat} {k:IntKind}
  (hx:ev g x=some (.slice ad len cap)) (hy:ev g y=some (.int k (m:Int))) (hm:m≤cap):PV P g (.slice t x none (some y) none) (.slice ad m cap):=by
 intro o a w n ho ha
 obtain ⟨i,h1,_⟩:=hi.out
 have hm':(0:Int)≤(m:Int)∧(m:Int)≤(cap:Int):=by omega
 have hadd:∀ q:Addr,q.add 0=q:=fun q=>rfl
 unfold execOp
 simp only [ho,ha.ev hx,Option.map_some,ha.ev hy,Option.map_none,Instr.sliceAt,Sem.run_bind,run_underlying hu.out,Result.andThen_ok,Instr.slice,Instr.sliceBounds,Instr.sliceBound,asIntOf,Sem.run_pure,hm',and_self,if_true,sizeOf,typeInfo,run_program,h1,
  Int.toNat_natCast,Nat.zero_mul,Nat.sub_zero,hadd]
 cases ad<;>simp
end
section
variable {P:Program} {n:Nat} {w0:World} {Q:uH} {g:Env} {L:Hp} {ops:Array Oper} {rest:List Oper} {dst:Option Nat} {ty:TypeId} {pos:String} {af:Array Edge} {gd:Option (Nat × Bool)}
 {eff:List Nat} {W:kK} {listed:Array Bool} {s:List Nat} {i:Nat}
theorem zK {op:Op} {v:Value} (h:pureV g op=some v) (hw:kI ops g gd=some true) (hd:dst.all (·<n)=true) (hk:yW P n w0 ops rest Q (wR g dst v) L) :
  yW P n w0 ops (⟨dst,op,ty,pos,af,gd⟩::rest) Q g L:=yG hw hd (pv_of h) hk
theorem zY {s:TypeId} {fs:Array Field} [hu:Und P s (.struct fs)] {x:Operand} {b off k:Nat} {nm tg pk:String} {tf:TypeId} {fo bo:Nat} {em:Bool} {sz by':Nat} {z:Value}
  (hx:ev g x=some (.pointer (some ⟨b,off,none⟩))) (hf:fs[k]?=some ⟨nm,tf,fo,em,tg,pk,bo⟩) [hi:Inf P tf sz by' z] (hsz:(sz==0)=false)
  (hw:kI ops g gd=some true) (hd:dst.all (·<n)=true) (hk:yW P n w0 ops rest Q (wR g dst (.pointer (some ⟨b,off+fo,none⟩))) L) :
  yW P n w0 ops (⟨dst,.fieldAddr s x k,ty,pos,af,gd⟩::rest) Q g L:=yG hw hd (zZ hx hf hsz) hk
theorem yT {t e:TypeId} [hu:Und P t (.slice e)] {x:Operand} {ad:Option Addr} {len cap:Nat} (hx:ev g x=some (.slice ad len cap))
  (hw:kI ops g gd=some true) (hd:dst.all (·<n)=true) (hk:yW P n w0 ops rest Q (wR g dst (.int .i64 len)) L) :
  yW P n w0 ops (⟨dst,.call { callee:=.builtin .len,args:=#[x],argTypes:=#[t] },ty,pos,af,gd⟩::rest) Q g L:=yG hw hd (pv_len hx) hk
theorem yU {t tb:TypeId} {x y:Operand} {a b:Int} (hx:ev g x=some (.int .i64 a)) (hy:ev g y=some (.int .i64 b)) (h0:-9223372036854775808≤a+b) (h1:a+b≤9223372036854775807)
  (hw:kI ops g gd=some true) (hd:dst.all (·<n)=true) (hk:yW P n w0 ops rest Q (wR g dst (.int .i64 (a+b))) L) :
  yW P n w0 ops (⟨dst,.binOp .add t x y tb,ty,pos,af,gd⟩::rest) Q g L:=yG hw hd (dE hx hy h0 h1) hk
theorem gA {t tb:TypeId} {x y:Operand} {a b:Int} (hx:ev g x=some (.int .i64 a)) (hy:ev g y=some (.int .i64 b)) (h0:-9223372036854775808≤a - b) (h1:a - b≤9223372036854775807)
  (hw:kI ops g gd=some true) (hd:dst.all (·<n)=true) (hk:yW P n w0 ops rest Q (wR g dst (.int .i64 (a - b))) L) :
  yW P n w0 ops (⟨dst,.binOp .sub t x y tb,ty,pos,af,gd⟩::rest) Q g L:=yG hw hd (pv_sub hx hy h0 h1) hk
theorem yL {t:TypeId} {pl:List (Nat × Nat)} [hpl:Plc P t pl] {sz by':Nat} {z:Value} [hi:Inf P t sz by' z] {parts:List (Nat × Operand)} {vs cells:List Value}
  (hp:evs g (parts.map (·.2))=some vs) (hfill:fillL (fun i=>pl[i]?) z.cells.toList ((parts.map (·.1)).zip vs)=some cells)
  (hw:kI ops g gd=some true) (hd:dst.all (·<n)=true) (hk:yW P n w0 ops rest Q (wR g dst (.agg cells.toArray)) L) :
  yW P n w0 ops (⟨dst,.build t parts.toArray,ty,pos,af,gd⟩::rest) Q g L:=yG hw hd (wJ hp hfill) hk
theorem yM {t:TypeId} {d:TypeDesc} [hu:Und P t d] {x:Operand} {b off:Nat} {c:List Value} {e:TypeId} {fz:Nat × Nat} {R:Hp} {v:Value}
  (hx:ev g x=some (.pointer (some ⟨b,off,none⟩))) [hb:HasPt b L (.cells c.toArray e fz) R] (hc:c[off]?=some v) (hn:gG d=true)
  (hw:kI ops g gd=some true) (hd:dst.all (·<n)=true) (hk:yW P n w0 ops rest Q (wR g dst v) L) :
  yW P n w0 ops (⟨dst,.load t x,ty,pos,af,gd⟩::rest) Q g L:=dJ hw hd (yE hx) (zG hn (zS hc)) hk
theorem xD {t:TypeId} {sz by':Nat} {z:Value} [hi:Inf P t sz by' z] {x y:Operand} {b off:Nat} {c:List Value} {e:TypeId} {v u:Value} {R:Hp}
  (hx:ev g x=some (.pointer (some ⟨b,off,none⟩))) (hy:ev g y=some v) [hb:HasPt b L (.cells c.toArray e (0,0)) R] (hc:c[off]?=some u) {c':List Value} (hc':c.set off v=c') (hsz:(sz==1)=true) (hv:v.oneCell'=true)
  (hw:kI ops g gd=some true) (hk:yW P n w0 ops rest Q g (pt b (.cells c'.toArray e (0,0))+R)) :
  yW P n w0 ops (⟨none,.store t x y,ty,pos,af,gd⟩::rest) Q g L:=kF hw M (kA hx hy hsz hv hc hc') (by rintro _ _ rfl; exact hk)
theorem xN {t:TypeId} {x:Operand} {v:Value} (hx:ev g x=some v) {c:List Value} (hc:v.cells.toList=c) (hw:kI ops g gd=some true) (hd:dst.all (·<n)=true)
  (hk:∀ b,yW P n w0 ops rest Q (wR g dst (.pointer (some ⟨b,0,none⟩))) (pt b (.cells c.toArray t (0,0))+L)) :
  yW P n w0 ops (⟨dst,.box t x,ty,pos,af,gd⟩::rest) Q g L:=kF hw hd (ev_box hx) (by rintro _ _ ⟨b,rfl,rfl⟩; subst hc; simpa using hk b)
theorem xK {t:TypeId} {sz by':Nat} {z:Value} [hi:Inf P t sz by' z] {c:List Value} (hc:z.cells.toList=c) (hw:kI ops g gd=some true) (hd:dst.all (·<n)=true)
  (hk:∀ b,yW P n w0 ops rest Q (wR g dst (.pointer (some ⟨b,0,none⟩))) (pt b (.cells c.toArray t (0,0))+L)) :
  yW P n w0 ops (⟨dst,.alloc t,ty,pos,af,gd⟩::rest) Q g L:=kF hw hd ev_alloc (by rintro _ _ ⟨b,rfl,rfl⟩; subst hc; simpa using hk b)
theorem yH {op:Op} {v:Value} (hi:ops[i]?=some ⟨dst,op,ty,pos,af,gd⟩) (h:pureV g op=some v) (heff:eff.contains i=false) (hw:kI ops g gd=some true) (hd:dst.all (·<n)=true)
  (hk:xC P n w0 ops eff W (listed.setIfInBounds i true) s Q (wR g dst v) L):xC P n w0 ops eff W listed (i::s) Q g L:=yD hi heff hw hd (pv_of h) hk
end
def gH (E size:Nat) (xs:List (List Value)) (v:Value) (h:Hp):Prop :=
 (∀ x∈xs,x.length=size) ∧
 ((∃ ad,v=.slice ad 0 0∧xs=[]∧h=0) ∨
 (∃ b cap spare,v=.slice (some ⟨b,0,none⟩) xs.length cap∧h=pt b (.cells (xs.flatten++spare).toArray E (0,0))∧xs.length≤cap∧cap≤maxLen∧spare.length=(cap - xs.length)*size))
def RdAt (w0:World) (L:Hp) (size:Nat) (ad:Option Addr) (xs:List (List Value)):Prop :=
 (∀ x∈xs,x.length=size)∧∀ i x,xs[i]?=some x→∃ b off,ad=some ⟨b,off,none⟩∧∀ j u,x[j]?=some u→Reads w0 L ⟨b,off+i*size+j,none⟩ u
def uA (w0:World) (L:Hp) (size:Nat) (v:Value) (xs:List (List Value)):Prop :=
 ∃ ad c,v=.slice ad xs.length c∧RdAt w0 L size ad xs
theorem gH.shape {E size:Nat} {xs:List (List Value)} {v:Value} {h:Hp} (hr:gH E size xs v h):∃ ad c,v=.slice ad xs.length c:=by
 obtain ⟨_,⟨ad,rfl,rfl,rfl⟩|⟨b,cap,spare,rfl,rfl,_⟩⟩:=hr
 ·exact ⟨ad,0,rfl⟩
 ·exact ⟨_,cap,rfl⟩
theorem uA.shape {w0:World} {L:Hp} {size:Nat} {v:Value} {xs:List (List Value)} (h:uA w0 L size v xs):∃ ad c,v=.slice ad xs.length c:=let ⟨ad,c,e,_⟩:=h; ⟨ad,c,e⟩
theorem uA.at {w0:World} {L:Hp} {size:Nat} {ad:Option Addr} {n c:Nat} {xs:List (List Value)} (h:uA w0 L size (.slice ad n c) xs):n=xs.length∧RdAt w0 L size ad xs:=by
 obtain ⟨ad',c',e,hat⟩:=h
 simp only [Value.slice.injEq] at e
 obtain ⟨rfl,rfl,rfl⟩:=e
 exact ⟨rfl,hat⟩
theorem jL {size:Nat}:∀ {xs:List (List Value)},(∀ x∈xs,x.length=size)→xs.flatten.length=xs.length*size:=by
 intro xs
 induction xs with
 | nil=>intro _; simp
 | cons x xs ih=>intro h; simp only [List.flatten_cons,List.length_append,List.length_cons,Nat.succ_mul,ih (fun y hy=>h y (by simp [hy])),h x (by simp)]; omega
theorem flat_at {size:Nat}:∀ {xs:List (List Value)},(∀ x∈xs,x.length=size)→∀ {i j:Nat} {x:List Value} {u:Value},xs[i]?=some x→x[j]?=some u→xs.flatten[i*size+j]?=some u:=by
 intro xs
 induction xs with
 | nil=>intro _ i j x u h; simp at h
 | cons y xs ih =>
  intro h i j x u hx hu
  have hy:=h y (by simp)
  cases i with
  | zero =>
   simp only [List.getElem?_cons_zero,Option.some.injEq] at hx; subst hx
   have:=(List.getElem?_eq_some_iff.1 hu).1
   simp only [Nat.zero_mul,Nat.zero_add,List.flatten_cons]
   rw [List.getElem?_append_left this]; exact hu
  | succ i =>
   simp only [List.getElem?_cons_succ] at hx
   have:=ih (fun z hz=>h z (by simp [hz])) hx hu
   simp only [List.flatten_cons,Nat.succ_mul]
   rw [List.getElem?_append_right (by omega),show i*size+size+j - y.length=i*size+j by omega]
   exact this
theorem flat_inv {size:Nat}:∀ {xs:List (List Value)},(∀ x∈xs,x.length=size)→∀ {j:Nat} {u:Value},xs.flatten[j]?=some u→∃ i r x,xs[i]?=some x∧x[r]?=some u∧j=i*size+r:=by
 intro xs
 induction xs with
 | nil=>intro _ j u h; simp at h
 | cons y xs ih =>
  intro h j u hu
  have hy:=h y (by simp)
  simp only [List.flatten_cons] at hu
  by_cases hj:j<y.length
  ·rw [List.getElem?_append_left hj] at hu
   exact ⟨0,j,y,rfl,hu,by omega⟩
  ·rw [List.getElem?_append_right (by omega)] at hu
   obtain ⟨i,r,x,h1,h2,h3⟩:=ih (fun z hz=>h z (by simp [hz])) hu
   exact ⟨i+1,r,x,by simpa using h1,h2,by rw [Nat.succ_mul]; omega⟩
theorem RdAt.flat {w0:World} {L:Hp} {size:Nat} {ad:Option Addr} {xs:List (List Value)} (h:RdAt w0 L size ad xs) {j:Nat} {u:Value} (hu:xs.flatten[j]?=some u):∃ b off,ad=some ⟨b,off,none⟩∧Reads w0 L ⟨b,off+j,none⟩ u:=by
 obtain ⟨i,r,x,h1,h2,rfl⟩:=flat_inv h.1 hu
 obtain ⟨b,off,rfl,h3⟩:=h.2 i x h1
 exact ⟨b,off,rfl,by have:=h3 r u h2; rwa [Nat.add_assoc] at this⟩
theorem add_none (b off j:Nat):(⟨b,off,none⟩:Addr).add j=⟨b,off+j,none⟩:=by unfold Addr.add; split<;>simp_all
theorem flat_set {size:Nat}:∀ {xs:List (List Value)},(∀ x∈xs,x.length=size)→∀ {i j:Nat} {x:List Value} (v:Value),xs[i]?=some x→j<size→xs.flatten.set (i*size+j) v=(xs.set i (x.set j v)).flatten:=by
 intro xs
 induction xs with
 | nil=>intro _ i j x v h; simp at h
 | cons y xs ih =>
  intro h i j x v hx hj
  have hy:=h y (by simp)
  cases i with
  | zero =>
   simp only [List.getElem?_cons_zero,Option.some.injEq] at hx; subst hx
   simp only [Nat.zero_mul,Nat.zero_add,List.flatten_cons,List.set_cons_zero]
   rw [List.set_append_left _ _ (by omega)]
  | succ i =>
   simp only [List.getElem?_cons_succ] at hx
   have:=ih (fun z hz=>h z (by simp [hz])) v hx hj
   simp only [List.flatten_cons,Nat.succ_mul,List.set_cons_succ]
   rw [List.set_append_right _ _ (by omega),show i*size+size+j - y.length=i*size+j by omega,this]
theorem row_set {size:Nat} {xs:List (List Value)} (h:∀ x∈xs,x.length=size) (spare:List Value) {i j:Nat} {x:List Value} (v:Value) (hx:xs[i]?=some x) (hj:j<size) :
  (xs.flatten++spare).set (i*size+j) v=(xs.set i (x.set j v)).flatten++spare:=by
 have hi:=(List.getElem?_eq_some_iff.1 hx).1
 have hl:=jL h
 have:i*size+j<xs.flatten.length:=by
  rw [hl]
  have:(i+1)*size≤xs.length*size:=Nat.mul_le_mul_right _ hi
  rw [Nat.succ_mul] at this
  omega
 rw [List.set_append_left _ _ this,flat_set h v hx hj]
theorem row_get {size:Nat} {xs:List (List Value)} (h:∀ x∈xs,x.length=size) (spare:List Value) {i j:Nat} {x:List Value} {u:Value} (hx:xs[i]?=some x) (hu:x[j]?=some u) :
  (xs.flatten++spare)[i*size+j]?=some u:=by
 have hfl:=flat_at h hx hu
 rw [List.getElem?_append_left (List.getElem?_eq_some_iff.1 hfl).1]; exact hfl
theorem uA.take {w0:World} {L:Hp} {size:Nat} {ad:Option Addr} {n c:Nat} {xs:List (List Value)} (h:uA w0 L size (.slice ad n c) xs) {m:Nat} (hm:m≤xs.length):uA w0 L size (.slice ad m c) (xs.take m):=by
 obtain ⟨rfl,h1,h2⟩:=h.at
 refine ⟨ad,c,by simp [hm],fun x hx=>h1 x (List.mem_of_mem_take hx),fun i x hx=>?_⟩
 rw [List.getElem?_take] at hx
 split at hx
 ·exact h2 i x hx
 ·cases hx
theorem gH.rd {E size:Nat} {xs:List (List Value)} {v:Value} {h:Hp} {w0:World} {L R:Hp} (hr:gH E size xs v h) [hf:yJ h L R]:uA w0 L size v xs:=by
 obtain ⟨h1,⟨ad,rfl,rfl,rfl⟩|⟨b,cap,spare,rfl,rfl,h2,h3,h4⟩⟩:=hr
 ·exact ⟨ad,0,rfl,h1,fun j u hu=>by simp at hu⟩
 ·refine ⟨_,cap,rfl,h1,fun i x hx=>⟨b,0,rfl,fun j u hu=>?_⟩⟩
  have hfl:=flat_at h1 hx hu
  refine Reads.frame (X:=pt b (.cells (xs.flatten++spare).toArray E (0,0))) (R:=R) (zS ?_)
  have:=(List.getElem?_eq_some_iff.1 hfl).1
  rw [Nat.zero_add,List.getElem?_append_left this]; exact hfl
theorem RdAt.frame {w0:World} {X L R:Hp} [hf:yJ X L R] {size:Nat} {ad:Option Addr} {xs:List (List Value)} (h:RdAt w0 X size ad xs):RdAt w0 L size ad xs :=
 ⟨h.1,fun i x hx=>let ⟨b,off,e,hr⟩:=h.2 i x hx; ⟨b,off,e,fun j u hu=>(hr j u hu).frame (R:=R)⟩⟩
theorem uA.frame {w0:World} {X L R:Hp} [hf:yJ X L R] {size:Nat} {v:Value} {xs:List (List Value)} (h:uA w0 X size v xs):uA w0 L size v xs :=
 let ⟨ad,c,e,h⟩:=h; ⟨ad,c,e,h.frame (R:=R)⟩
section
variable {P:Program} {w0:World} {L:Hp} {g:Env}
theorem ev_append {t e:TypeId} [hu:Und P t (.slice e)] {sz by':Nat} {z:Value} [hi:Inf P e sz by' z] {x y:Operand} {v v2:Value} {xs ns:List (List Value)} {h R:Hp}
  (hx:ev g x=some v) (hy:ev g y=some v2) (hr:gH e sz xs v h) (hn:uA w0 L sz v2 ns) (h1:∀ n∈ns,∀ u∈n,u.oneCell'=true) [hf:yJ h L R]
  (hby:(by'==0)=false) (hsz:(sz==0)=false) (hzs:(z.cells.size==sz)=true) (hb:(xs.length+ns.length)*by'≤140737488355328) :
  EV P w0 L g (.call { callee:=.builtin .append,args:=#[x,y],argTypes:=#[t,t] }) fun u L'=>∃ h',gH e sz (xs++ns) u h'∧L'=h'+R:=by
 intro o a w n ho ha hst
 obtain ⟨i,i1,i2,i3,i4⟩:=hi.out
 obtain ⟨ad2,c2,rfl,hn⟩:=hn
 have n1:=hn.1
 have n2:∀ j u,ns.flatten[j]?=some u→∃ a,ad2=some a∧Reads w0 L (a.add j) u:=fun j u hu=>by
  obtain ⟨b,off,rfl,h⟩:=hn.flat hu
  exact ⟨_,rfl,by rw [add_none]; exact h⟩
 have hby':1≤by':=by
   have:by'≠0:=by simpa using hby
   omega
 have hsz':1≤sz:=by
   have:sz≠0:=by simpa using hsz
   omega
 have hzs':z.cells.size=sz:=by simpa using hzs
 have hlen:xs.length+ns.length≤140737488355328:=Nat.le_trans (Nat.le_mul_of_pos_right _ hby') hb
 have hall:∀ x∈xs++ns,x.length=sz:=fun x hx=>(List.mem_append.1 hx).elim (hr.1 x) (n1 x)
 have hfl:=jL n1
 have hflx:=jL hr.1
 have run:execOp a.eval o=(do pure (.value (← Builtin.append_ #[t,t] o.type #[v,.slice ad2 ns.length c2]))):=by
  unfold execOp
  simp only [ho,resolve,invoke,builtin,ha.ev hx,ha.ev hy,List.map_toArray,List.map_cons,List.map_nil,pure_bind]
 have h1':∀ u∈ns.flatten,u.oneCell'=true:=fun u hu=>by
  obtain ⟨m,hm,hum⟩:=List.mem_flatten.1 hu
  exact h1 m hm u hum
 by_cases hm:ns=[]
 ·subst hm
  have hL:St w0 w (h+R):=by rw [hf.out] at hst; exact hst
  refine ⟨v,w,h+R,.inl ?_,⟨h,by simpa using hr,rfl⟩,hL⟩
  rw [run]
  have e0:(Builtin.firstCells i.size 0 (.slice ad2 0 c2)).run P w=.ok #[] w:=by
   cases ad2<;>simp [Builtin.firstCells,loadCells,loadCellsFrom]
  obtain ⟨_,⟨ad,rfl,rfl,rfl⟩|⟨b,cap,spare,rfl,rfl,k1,k2,k3⟩⟩:=hr
  ·simp only [List.length_nil]
   cases ad<;>simp [Builtin.append_,run_underlying hu.out,sizeOf,typeInfo,i1,Builtin.lenOf,e0,storeCells]
  ·simp only [List.length_nil]
   simp [Builtin.append_,run_underlying hu.out,sizeOf,typeInfo,i1,Builtin.lenOf,e0,storeCells,k1]
 ·have hpos:0<ns.length:=List.length_pos_iff.2 hm
  have hne:ns.flatten≠[]:=fun e=>by
   have:ns.flatten.length=0:=by rw [e]; rfl
   rw [hfl] at this
   have:=Nat.mul_pos hpos hsz'
   omega
  obtain ⟨a2,rfl⟩:∃ a2,ad2=some a2:=by
   cases hh:ns.flatten with
   | nil=>exact absurd hh hne
   | cons u l=>obtain ⟨a2,h,_⟩:=n2 0 u (by rw [hh]; rfl); exact ⟨a2,h⟩
  have hnews:∀ j u,ns.flatten[j]?=some u→w.cell? (a2.add j)=some u:=fun j u hu=>by
   obtain ⟨a3,h,hr⟩:=n2 j u hu
   cases h
   exact hr w hst
  have grow:∀ (old:Nat),old<xs.length+ns.length →
    gH e sz (xs++ns) (.slice (some ⟨w.heap.size,0,none⟩) (xs.length+ns.length) (grownCap w (xs.length+ns.length) old e))
     (pt w.heap.size (.cells (xs.flatten.toArray++ns.flatten.toArray++Builtin.zeroCells z.cells (grownCap w (xs.length+ns.length) old e - (xs.length+ns.length))) e)):=by
   intro old ho
   refine ⟨hall,.inr ⟨w.heap.size,grownCap w (xs.length+ns.length) old e,(Builtin.zeroCells z.cells (grownCap w (xs.length+ns.length) old e - (xs.length+ns.length))).toList,by simp,?_,?_,?_,?_⟩⟩
   ·congr 2
    apply Array.ext'
    simp
   ·simp only [List.length_append]; exact grownCap_ge w _ _ _
   ·exact grownCap_le_maxLen w _ _ _ (by unfold maxLen; omega)
   ·simp only [Array.length_toList,size_zeroCells,hzs',List.length_append]
  have hR:St w0 w R:=by rw [hf.out] at hst; exact hst.right
  obtain ⟨_,⟨ad,rfl,rfl,rfl⟩|⟨b,cap,spare,rfl,rfl,k1,k2,k3⟩⟩:=hr
  ·have hg:=grow 0 (by simpa using hpos)
   simp only [List.length_nil,Nat.zero_add,List.flatten_nil,List.nil_append,Array.empty_append] at hg
   refine ⟨_,w.drew.alloc _,_,.inl ?_,⟨_,hg,rfl⟩,hR.drew.alloc _⟩
   rw [run]
   cases ad with
   | none =>
    have:=run_append_nil (P:=P) w t o.type e i z hu.out i1 i4 a2 ns.length c2 ns.flatten (by rw [i2]; exact hfl) hnews hpos (by omega) (by simp only [List.length_nil,Nat.zero_add] at hb; rw [i3]; omega)
    simp only [Sem.run_bind,this,Result.andThen_ok,Sem.run_pure]
   | some a0 =>
    have:=run_append_grow (P:=P) w t o.type e i z hu.out i1 i4 a0 0 0 [] (by simp) (by simp) a2 ns.length c2 ns.flatten (by rw [i2]; exact hfl) hnews (by omega) (by omega) (by rw [i3]; exact growslice_fits (by omega) (by simpa using hb))
    simp only [Sem.run_bind,this,Result.andThen_ok,Sem.run_pure,Nat.zero_add]
    simp
  ·have hheap:w.heap[b]?=some (.cells (xs.flatten++spare).toArray e (0,0)):=by rw [hf.out] at hst; exact hst.sat.left.pt.2
   by_cases hroom:xs.length+ns.length≤cap
   ·have hfit:xs.length*i.size+ns.flatten.length≤(xs.flatten++spare).toArray.size:=by
     simp only [List.size_toArray,List.length_append,hfl,hflx,k3,i2,← Nat.add_mul]
     exact Nat.mul_le_mul_right _ (by omega)
    have:=run_append_room (P:=P) w t o.type e i hu.out i1 b xs.length cap _ hheap a2 ns.length c2 ns.flatten (by rw [i2]; exact hfl) hnews h1' hroom hfit
    refine ⟨.slice (some ⟨b,0,none⟩) (xs.length+ns.length) cap,w.setRow b ((xs.flatten++spare).toArray.toList.take (xs.length*i.size)++ns.flatten++(xs.flatten++spare).toArray.toList.drop (xs.length*i.size+ns.flatten.length)).toArray,pt b (.cells ((xs++ns).flatten++spare.drop (ns.length*sz)).toArray e (0,0))+R,.inl (by rw [run]; simp only [Sem.run_bind,this,Result.andThen_ok,Sem.run_pure]),⟨_,⟨hall,.inr ⟨b,cap,spare.drop (ns.length*sz),by simp,rfl,by simp; omega,k2,?_⟩⟩,rfl⟩,?_⟩
    ·simp only [List.length_drop,k3,List.length_append,← Nat.sub_mul]
     congr 1; omega
    ·have hst':St w0 w (pt b (.cells (xs.flatten++spare).toArray e (0,0))+R):=by rw [hf.out] at hst; exact hst
     refine hst'.set ?_ (fun k hk=>setRow_other w b k _ hk) (by simp) M M M
     rw [setRow_heap w b _ _ e (0,0) hheap]
     congr 2
     rw [i2,← hflx,List.toList_toArray,List.take_left,hfl,← List.drop_drop,List.drop_left,List.flatten_append]
   ·have hg:=grow cap (by omega)
    refine ⟨_,w.drew.alloc _,_,.inl ?_,⟨_,hg,rfl⟩,hR.drew.alloc _⟩
    have holds:∀ j u,xs.flatten[j]?=some u→w.cell? ((⟨b,0,none⟩:Addr).add j)=some u:=fun j u hu=>by
     have hadd:(⟨b,0,none⟩:Addr).add j=⟨b,j,none⟩:=by unfold Addr.add; split<;>simp_all
     have:=(List.getElem?_eq_some_iff.1 hu).1
     simp [hadd,World.cell?,hheap,List.getElem?_append_left this,hu]
    have:=run_append_grow (P:=P) w t o.type e i z hu.out i1 i4 ⟨b,0,none⟩ xs.length cap xs.flatten (by rw [i2]; exact hflx) holds a2 ns.length c2 ns.flatten (by rw [i2]; exact hfl) hnews (by omega) (by omega) (by rw [i3]; exact growslice_fits (by omega) hb)
    rw [run]
    simp only [Sem.run_bind,this,Result.andThen_ok,Sem.run_pure]
end
attribute [local irreducible] xY yW xC
def bN (l:List Int):List (List Value):=l.map fun n=>[.int .i64 n]
theorem enc1_at {l:List Int} {k:Nat} (h:k<l.length):(bN l)[k]?=some [.int .i64 (l.getD k 0)]:=by simp [bN,h,List.getD]
theorem kM (l:List Int):(bN l).length=l.length:=by simp [bN]
theorem bool_no {p:Prop} [Decidable p] (h:¬ p):oneV [.bool false]=.bool (decide p):=by rw [decide_eq_false h]; rfl
theorem enc1_set (l:List Int) (i:Nat) (n:Int):(bN l).set i [.int .i64 n]=bN (l.set i n):=by simp [bN,List.map_set]
theorem bL (l:List Int):∀ x∈bN l,x.length=1:=by
 intro x hx
 obtain ⟨n,_,rfl⟩:=List.mem_map.1 hx
 rfl
def intsAt (b:Nat) (l:List Int):Hp:=pt b (.cells ((bN l).flatten++[]).toArray 3 (0,0))
theorem ints_made (b n:Nat):pt b (.cells (List.replicate n (Go.Value.int Go.IntKind.i64 0).cells.toList).flatten.toArray 3 (0,0))=intsAt b (List.replicate n 0):=by
 simp [intsAt,bN,Value.cells]
theorem ints_set {l:List Int} {i:Nat} (h:i<l.length) (n:Int):((bN l).flatten++[]).set (i*1+0) (.int .i64 n)=(bN (l.set i n)).flatten++[]:=by
 rw [row_set (bL l) [] (.int .i64 n) (enc1_at h) (by omega),← enc1_set]; rfl
theorem intsAt_row {b:Nat} {l:List Int} (h:l.length≤9000000000000000000):gH 3 1 (bN l) (.slice (some ⟨b,0,none⟩) l.length l.length) (intsAt b l) :=
 ⟨bL l,.inr ⟨b,l.length,[],by rw [kM],rfl,by rw [kM]; exact Nat.le_refl _,by unfold maxLen; omega,by rw [kM]; simp⟩⟩
end Sl
end Go.Proofs.YtfahijncpmlhjaaGreat
namespace Go.Proofs.YtfahijncpmlhjaaGreat
open Go Go.RowKit
namespace Sl
section
variable {P:Program} {n:Nat} {w0:World} {Q:uH} {g:Env} {L:Hp} {ops:Array Oper} {rest:List Oper} {dst:Option Nat} {ty:TypeId} {pos:String} {af:Array Edge} {gd:Option (Nat × Bool)}
theorem run_storeCells {b off:Nat} {e:TypeId} {R:Hp}:∀ (vs:List Value) (i:Nat) (c:List Value) (w:World),St w0 w (pt b (.cells c.toArray e (0,0))+R)→(∀ v∈vs,v.oneCell'=true)→off+i+vs.length≤c.length →
  ∃ w',(storeCells ⟨b,off,none⟩ vs i).run P w=.ok () w'∧St w0 w' (pt b (.cells (vD (off+i) vs c).toArray e (0,0))+R)
 | [],i,c,w,h,_,_=>⟨w,by simp [storeCells],by rw [dV]; exact h⟩
 | v::vs,i,c,w,h,h1,h2=>by
  simp only [List.length_cons] at h2
  have hb:=h.sat.left.pt.2
  have hcell:w.cell? ⟨b,off+i,none⟩=some (c[off+i]'(by omega)):=by simp [World.cell?,hb,show off+i<c.length by omega]
  have hfr:w.frozen? ⟨b,off+i,none⟩=false:=by simp [World.frozen?,hb]
  have h':=St.store (off:=off+i) h v
  obtain ⟨w',e1,e2⟩:=run_storeCells (off:=off) vs (i+1) (c.set (off+i) v) _ h' (fun u hu=>h1 u (by simp [hu])) (by simp; omega)
  refine ⟨w',?_,?_⟩
  ·simp only [storeCells,Sem.run_bind,add_none,run_store P w _ v .plain (h1 v (by simp)),hcell,hfr,Bool.false_eq_true,if_false,Result.andThen_ok,e1]
  ·rw [splice_set]; exact e2
theorem wH {t:TypeId} {sz by':Nat} {z:Value} [hi:Inf P t sz by' z] {x y:Operand} {b off:Nat} {c:List Value} {e:TypeId} {vs:List Value} {R:Hp}
  (hx:ev g x=some (.pointer (some ⟨b,off,none⟩))) (hy:ev g y=some (.agg vs.toArray)) (hl:(vs.length==sz)=true) (h1:vs.all (·.oneCell')=true) [hb:HasPt b L (.cells c.toArray e (0,0)) R] (hc:off+vs.length≤c.length)
  {c':List Value} (hc':vD off vs c=c'):EV P w0 L g (.store t x y) fun _ L'=>L'=pt b (.cells c'.toArray e (0,0))+R:=by
 intro o a w m ho ha hst
 subst hc'
 obtain ⟨i,i1,i2,i3,i4⟩:=hi.out
 rw [hb.out] at hst
 obtain ⟨w',e1,e2⟩:=run_storeCells (P:=P) (off:=off) vs 0 c w hst (fun v hv=>List.all_eq_true.1 h1 v hv) (by omega)
 refine ⟨undef,w',_,.inr ⟨?_,rfl⟩,rfl,e2⟩
 have hsz:¬ ((Value.agg vs.toArray).cells.size≠sz):=by simpa [Value.cells] using hl
 have e1':(storeCells ⟨b,off,none⟩ (Value.agg vs.toArray).cells.toList).run P w=.ok () w':=e1
 unfold execOp
 simp only [ho,ha.ev hx,ha.ev hy,Instr.storeAt,Instr.sureAddr,pure_bind,storeVar,sizeOf,typeInfo,Sem.run_bind,run_program,i1,Sem.run_pure,Result.andThen_ok,i2,hsz,if_false,e1']
theorem yY {t:TypeId} {sz by':Nat} {z:Value} [hi:Inf P t sz by' z] {x y:Operand} {b off:Nat} {c:List Value} {e:TypeId} {vs:List Value} {R:Hp}
  (hx:ev g x=some (.pointer (some ⟨b,off,none⟩))) (hy:ev g y=some (.agg vs.toArray)) [hb:HasPt b L (.cells c.toArray e (0,0)) R] (hl:(vs.length==sz)=true) (h1:vs.all (·.oneCell')=true) (hc:Nat.ble (off+vs.length) c.length=true)
  {c':List Value} (hc':vD off vs c=c') (hw:kI ops g gd=some true) (hk:yW P n w0 ops rest Q g (pt b (.cells c'.toArray e (0,0))+R)) :
  yW P n w0 ops (⟨none,.store t x y,ty,pos,af,gd⟩::rest) Q g L:=kF hw M (wH hx hy hl h1 (Nat.le_of_ble_eq_true hc) hc') (by rintro _ _ rfl; exact hk)
theorem zL {t:TypeId} {d:TypeDesc} [hu:Und P t d] (hd:gG d=false) {sz by':Nat} {z:Value} [hi:Inf P t sz by' z] {b off:Nat} {c:List Value} {e:TypeId} {fz:Nat × Nat} {R:Hp}
  [hb:HasPt b L (.cells c.toArray e fz) R] {vs:List Value} (hc:(c.drop off).take sz=vs) (hl:(vs.length==sz)=true):qA P w0 L t ⟨b,off,none⟩ (.agg vs.toArray) :=
 loads_aggR hd vs (by simpa using hl) fun j v hv=>zS (R:=R) (by
  subst hc
  rw [List.getElem?_take] at hv
  split at hv
  ·rwa [List.getElem?_drop] at hv
  ·cases hv)
theorem xJ {t:TypeId} {d:TypeDesc} [hu:Und P t d] {sz by':Nat} {z:Value} [hi:Inf P t sz by' z] {x:Operand} {b off:Nat} {c:List Value} {e:TypeId} {fz:Nat × Nat} {R:Hp} {vs:List Value}
  (hx:ev g x=some (.pointer (some ⟨b,off,none⟩))) [hb:HasPt b L (.cells c.toArray e fz) R] (hc:(c.drop off).take sz=vs) (hl:(vs.length==sz)=true) (hn:gG d=false)
  (hw:kI ops g gd=some true) (hd:dst.all (·<n)=true) (hk:yW P n w0 ops rest Q (wR g dst (.agg vs.toArray)) L) :
  yW P n w0 ops (⟨dst,.load t x,ty,pos,af,gd⟩::rest) Q g L:=dJ hw hd (yE hx) (zL hn hc hl) hk
theorem pv_min {x y:Operand} {ts:Array TypeId} {k:IntKind} {i j:Int} (hx:ev g x=some (.int k i)) (hy:ev g y=some (.int k j)) :
  PV P g (.call { callee:=.builtin .min,args:=#[x,y],argTypes:=ts }) (.int k (if j<i then j else i)):=by
 intro o a w m ho ha
 have:=run_min_int2 (P:=P) w ts o.type k k i j
 unfold execOp
 simp [ho,resolve,invoke,builtin,ha.ev hx,ha.ev hy,this]
theorem pv_max {x y:Operand} {ts:Array TypeId} {k:IntKind} {i j:Int} (hx:ev g x=some (.int k i)) (hy:ev g y=some (.int k j)) :
  PV P g (.call { callee:=.builtin .max,args:=#[x,y],argTypes:=ts }) (.int k (if i<j then j else i)):=by
 intro o a w m ho ha
 have:=run_max_int2 (P:=P) w ts o.type k k i j
 unfold execOp
 simp [ho,resolve,invoke,builtin,ha.ev hx,ha.ev hy,this]
theorem qD {t e ty:TypeId} [hu:Und P t (.slice e)] {x y:Operand} {ad:Option Addr} {l c:Nat} (hx:ev g x=some (.slice ad l c)) (hy:ev g y=some (.slice none 0 0)):PV P g (.binOp .eql t x y ty) (.bool ad.isNone):=by
 intro o a w m ho ha; unfold execOp
 have e1:(Op.equal t (.slice ad l c) (.slice none 0 0)).run P w=.ok ad.isNone w:=by
  show (Op.equalIn (9999+1) t _ _).run P w=_
  unfold Op.equalIn
  cases ad<;>simp only [Sem.run_bind,run_underlying hu.out,Result.andThen_ok,Sem.run_pure]<;>rfl
 have e2:binOp .eql t (.slice ad l c) (.slice none 0 0)=(do pure (.bool (← Op.equal t (.slice ad l c) (.slice none 0 0)))):=rfl
 simp only [ho,ha.ev hx,ha.ev hy,eqGuard,e2,Sem.run_bind,e1,Result.andThen_ok,Sem.run_pure]
 simp only [Bool.not_true,Bool.false_eq_true,if_false,Sem.run_pure,Result.andThen_ok,e1]
theorem pv_quo_nn {t ty:TypeId} {x y:Operand} {i j:Int} (hx:ev g x=some (.int .i64 i)) (hy:ev g y=some (.int .i64 j)) (h0:0≤i) (h1:i≤9223372036854775807) (hj:1≤j):PV P g (.binOp .quo t x y ty) (.int .i64 (i / j)):=by
 have h:=pv_quo (P:=P) (t:=t) (ty:=ty) hx hy (by omega)
 rw [Int.tdiv_eq_ediv_of_nonneg h0] at h
 have a:0≤i / j:=Int.ediv_nonneg h0 (by omega)
 have b:i / j≤i:=Int.ediv_le_self j h0
 rwa [qK _ (by omega) (by omega)] at h
theorem pv_rem_nn {t ty:TypeId} {x y:Operand} {k:IntKind} {i j:Int} (hx:ev g x=some (.int k i)) (hy:ev g y=some (.int k j)) (h0:0≤i) (hj:1≤j):PV P g (.binOp .rem t x y ty) (.int k (i % j)):=by
 have h:=pv_rem (P:=P) (t:=t) (ty:=ty) hx hy (by omega)
 rwa [Int.tmod_eq_emod_of_nonneg h0] at h
theorem pv_shl {t ty:TypeId} {x y:Operand} {k k2:IntKind} {i j:Int} (hx:ev g x=some (.int k i)) (hy:ev g y=some (.int k2 j)) (h0:0≤j):PV P g (.binOp .shl t x y ty) (.int k (k.wrap (i*2 ^ (min j.toNat k.bits)))):=by
 intro o a w m ho ha
 have hn:¬ j<0:=by omega
 unfold execOp
 simp only [ho,ha.ev hx,ha.ev hy,eqGuard,binOp,Op.shift,hn,if_false]
 simp
def shiftA (ad:Option Addr) (l cap size:Nat):Option Addr:=if cap=l then ad else ad.map (·.add (l*size))
theorem vP {t e:TypeId} [hu:Und P t (.slice e)] {sz by':Nat} {z:Value} [hi:Inf P e sz by' z] {x y:Operand} {ad:Option Addr} {len cap l:Nat} {k:IntKind}
  (hx:ev g x=some (.slice ad len cap)) (hy:ev g y=some (.int k (l:Int))) (hl:l≤len):PV P g (.slice t x (some y) none none) (.slice (shiftA ad l cap sz) (len - l) (cap - l)):=by
 intro o a w m ho ha
 obtain ⟨i,h1,h2,_⟩:=hi.out
 have hl':(0:Int)≤(l:Int)∧(l:Int)≤(len:Int):=by omega
 unfold execOp
 simp only [ho,ha.ev hx,Option.map_some,ha.ev hy,Option.map_none,Instr.sliceAt,Sem.run_bind,run_underlying hu.out,Result.andThen_ok,Instr.slice,Instr.sliceBounds,Instr.sliceBound,asIntOf,Sem.run_pure,hl',and_self,if_true,sizeOf,typeInfo,run_program,h1,h2,
  Int.toNat_natCast,shiftA]
theorem pv_slice_lh {t e:TypeId} [hu:Und P t (.slice e)] {sz by':Nat} {z:Value} [hi:Inf P e sz by' z] {x y y2:Operand} {ad:Option Addr} {len cap l h:Nat} {k k2:IntKind}
  (hx:ev g x=some (.slice ad len cap)) (hy:ev g y=some (.int k (l:Int))) (hy2:ev g y2=some (.int k2 (h:Int))) (hl:l≤h) (hh:h≤cap):PV P g (.slice t x (some y) (some y2) none) (.slice (shiftA ad l cap sz) (h - l) (cap - l)):=by
 intro o a w m ho ha
 obtain ⟨i,h1,h2,_⟩:=hi.out
 have hl':(0:Int)≤(l:Int)∧(l:Int)≤(h:Int):=by omega
 have hh':(0:Int)≤(h:Int)∧(h:Int)≤(cap:Int):=by omega
 unfold execOp
 simp only [ho,ha.ev hx,Option.map_some,ha.ev hy,ha.ev hy2,Option.map_none,Instr.sliceAt,Sem.run_bind,run_underlying hu.out,Result.andThen_ok,Instr.slice,Instr.sliceBounds,Instr.sliceBound,asIntOf,Sem.run_pure,hh',hl',and_self,if_true,sizeOf,typeInfo,run_program,h1,h2,
  Int.toNat_natCast,shiftA]
theorem uA.drop {size:Nat} {ad:Option Addr} {len c:Nat} {xs:List (List Value)} (h:uA w0 L size (.slice ad len c) xs) {l:Nat} (hl:l≤len) (hc:len≤c):uA w0 L size (.slice (shiftA ad l c size) (len - l) (c - l)) (xs.drop l):=by
 obtain ⟨rfl,h1,h2⟩:=h.at
 refine ⟨shiftA ad l c size,c - l,by rw [List.length_drop],fun x hx=>h1 x (List.mem_of_mem_drop hx),fun i x hx=>?_⟩
 rw [List.getElem?_drop] at hx
 obtain ⟨b,off,rfl,hr⟩:=h2 (l+i) x hx
 have hi:=(List.getElem?_eq_some_iff.1 hx).1
 refine ⟨b,off+l*size,?_,fun j u hu=>?_⟩
 ·unfold shiftA; rw [if_neg (by omega)]; simp [add_none]
 ·have:=hr j u hu
  rwa [Nat.add_mul,← Nat.add_assoc] at this
theorem vH {b off l cap size:Nat} (h:cap≠l):shiftA (some ⟨b,off,none⟩) l cap size=some ⟨b,off+l*size,none⟩:=by
 unfold shiftA; rw [if_neg h]; simp [add_none]
theorem rd_block {b size c:Nat} {xs:List (List Value)} {spare:List Value} {e:TypeId} {fz:Nat × Nat} {R:Hp} [hb:HasPt b L (.cells (xs.flatten++spare).toArray e fz) R] (hs:∀ x∈xs,x.length=size) :
  uA w0 L size (.slice (some ⟨b,0,none⟩) xs.length c) xs :=
 ⟨_,c,rfl,hs,fun i x hx=>⟨b,0,rfl,fun j u hu=>by rw [Nat.zero_add]; exact zS (R:=R) (row_get hs spare hx hu)⟩⟩
theorem gH.nonempty {E size:Nat} {xs:List (List Value)} {v:Value} {h:Hp} (hr:gH E size xs v h) (hne:xs≠[]) :
  ∃ b cap spare,v=.slice (some ⟨b,0,none⟩) xs.length cap∧h=pt b (.cells (xs.flatten++spare).toArray E (0,0))∧(∀ x∈xs,x.length=size)∧xs.length≤cap∧cap≤maxLen∧spare.length=(cap - xs.length)*size:=by
 obtain ⟨hs,⟨ad,_,e,_⟩|⟨b,cap,spare,e1,e2,e3,e4,e5⟩⟩:=hr
 ·exact absurd e hne
 ·exact ⟨b,cap,spare,e1,e2,hs,e3,e4,e5⟩
theorem jH {E size:Nat} {xs:List (List Value)} {b cap:Nat} {spare:List Value} (h1:∀ x∈xs,x.length=size) (h2:xs.length≤cap) (h3:cap≤maxLen) (h4:spare.length=(cap - xs.length)*size) :
  gH E size xs (.slice (some ⟨b,0,none⟩) xs.length cap) (pt b (.cells (xs.flatten++spare).toArray E (0,0))):=⟨h1,.inr ⟨b,cap,spare,rfl,rfl,h2,h3,h4⟩⟩
theorem row_get0 {size:Nat} {xs:List (List Value)} (h:∀ x∈xs,x.length=size) (spare:List Value) {i j:Nat} {x:List Value} {u:Value} (hx:xs[i]?=some x) (hu:x[j]?=some u) :
  (xs.flatten++spare)[0+i*size+j]?=some u:=by rw [Nat.zero_add]; exact row_get h spare hx hu
theorem row_set0 {size:Nat} {xs:List (List Value)} (h:∀ x∈xs,x.length=size) (spare:List Value) {i j:Nat} {x:List Value} (v:Value) (hx:xs[i]?=some x) (hj:j<size) :
  (xs.flatten++spare).set (0+i*size+j) v=(xs.set i (x.set j v)).flatten++spare:=by rw [Nat.zero_add]; exact row_set h spare v hx hj
theorem zeroCells_eq (z:Array Value) (m:Nat):(Builtin.zeroCells z m).toList=(List.replicate m z.toList).flatten:=by
 have:=zeros_eq z m z.size M
 unfold Builtin.zeroCells
 rw [this]
theorem ev_clear {t e:TypeId} [hu:Und P t (.slice e)] {sz by':Nat} {z:Value} [hi:Inf P e sz by' z] {x:Operand} {b off m cap:Nat} {c:List Value} {R:Hp}
  (hx:ev g x=some (.slice (some ⟨b,off,none⟩) m cap)) [hf:HasPt b L (.cells c.toArray e (0,0)) R] (hz:(z.cells.size==sz)=true) (h1:z.cells.toList.all (·.oneCell')=true) (hc:off+m*sz≤c.length) :
  EV P w0 L g (.call { callee:=.builtin .clear,args:=#[x],argTypes:=#[t] }) fun u L'=>L'=pt b (.cells (vD off (List.replicate m z.cells.toList).flatten c).toArray e (0,0))+R:=by
 intro o a w q ho ha hst
 obtain ⟨i,i1,i2,i3,i4⟩:=hi.out
 rw [hf.out] at hst
 have hzs:z.cells.size=sz:=by simpa using hz
 have hlen:(List.replicate m z.cells.toList).flatten.length=m*sz:=by simp [hzs]
 have hone:∀ v∈(List.replicate m z.cells.toList).flatten,v.oneCell'=true:=fun v hv=>by
  obtain ⟨l,hl,hvl⟩:=List.mem_flatten.1 hv
  rw [List.eq_of_mem_replicate hl] at hvl
  exact List.all_eq_true.1 h1 v hvl
 obtain ⟨w',e1,e2⟩:=run_storeCells (P:=P) (off:=off) (List.replicate m z.cells.toList).flatten 0 c w hst hone (by rw [hlen]; omega)
 refine ⟨.tuple #[],w',_,.inl ?_,rfl,e2⟩
 unfold execOp
 simp only [ho,resolve,invoke,builtin,ha.ev hx,List.map_toArray,List.map_cons,List.map_nil,pure_bind,Sem.run_bind]
 have key:(Builtin.clear_ #[t] o.type #[.slice (some ⟨b,off,none⟩) m cap]).run P w=.ok (.tuple #[]) w':=by
  unfold Builtin.clear_
  cases m with
  | zero =>
   simp only [List.replicate_zero,List.flatten_nil] at e1
   have:w'=w:=by
    have h2:(storeCells ⟨b,off,none⟩ [] 0).run P w=.ok () w:=by simp [storeCells]
    rw [h2] at e1
    injection e1 with _ h3
    exact h3.symm
   subst this
   simp [run_underlying hu.out]
  | succ m =>
   simp [run_underlying hu.out,zeroValue,typeInfo,i1,i4,zeroCells_eq,e1]
 simp only [key,Result.andThen_ok,Sem.run_pure]
end
theorem wQ {w0:World} {L:Hp} {b size c:Nat} {cs:List Value} {e:TypeId} {fz:Nat × Nat} {R:Hp} [hb:HasPt b L (.cells cs.toArray e fz) R] (hs:cs.length=size):uA w0 L size (.slice (some ⟨b,0,none⟩) 1 c) [cs]:=by
 refine ⟨_,c,rfl,by simp [hs],fun i x hx=>⟨b,0,rfl,fun j u hu=>?_⟩⟩
 cases i with
 | succ i=>simp at hx
 | zero =>
  simp only [List.getElem?_cons_zero,Option.some.injEq] at hx
  subst hx
  simp only [Nat.zero_mul,Nat.zero_add]
  exact zS (R:=R) hu
section
variable {P:Program} {g:Env}
def cellEq (P:Program) (t:TypeId) (a b:Option Value):Option Bool :=
 match P.underlying t,a,b with
 | some (.int _),some (.int k x),some (.int k' y)=>if k=k' then some (decide (x=y)) else none
 | some .bool,some (.bool x),some (.bool y)=>some (x==y)
 | _,_,_=>none
theorem run_cellEq {t:TypeId} {xs ys:Array Value} {o:Nat} {r:Bool} (h:cellEq P t xs[o]? ys[o]?=some r) (d:Nat) (w:World) {β:Type} (f:Bool→Sem β) :
  (do let a ← part t xs o; let b ← part t ys o; let q ← Op.equalIn (d+1) t a b; f q:Sem β).run P w=(f r).run P w:=by
 unfold cellEq at h
 split at h
 ·rename_i a b q k x k' y e1 e2 e3
  split at h
  ·rename_i ek
   subst ek
   simp only [Option.some.injEq] at h
   subst h
   simp only [part,isAgg,Sem.run_bind,run_underlying e1,Result.andThen_ok,Sem.run_pure,e2,e3,Bool.false_eq_true,if_false]
   rw [show (Op.equalIn (d+1) t (.int k x) (.int k y)).run P w=.ok (x==y) w from run_equalIn_int w d t k q x y e1]
   rfl
  ·cases h
 ·rename_i a b x y e1 e2 e3
  simp only [Option.some.injEq] at h
  subst h
  simp only [part,isAgg,Sem.run_bind,run_underlying e1,Result.andThen_ok,Sem.run_pure,e2,e3,run_equalIn_bool w d t x y e1,Bool.false_eq_true,if_false]
 ·cases h
def fieldsEq (P:Program) (xs ys:Array Value):List Field→Option Bool
 | []=>some true
 | f::fs=>if f.name == "_" then none else match cellEq P f.type xs[f.offset]? ys[f.offset]?,fieldsEq P xs ys fs with
  | some r,some q=>some (r&&q)
  | _,_=>none
theorem run_fieldsEq {xs ys:Array Value} (d:Nat) (w:World):∀ {fs:List Field} {r:Bool},fieldsEq P xs ys fs=some r→(Op.eqFields (d+1) xs ys fs).run P w=.ok r w
 | [],r,h=>by simp only [fieldsEq,Option.some.injEq] at h; subst h; rfl
 | f::fs,r,h=>by
  simp only [fieldsEq] at h
  split at h
  ·cases h
  ·rename_i hn
   split at h
   ·rename_i r1 q e1 e2
    simp only [Option.some.injEq] at h
    subst h
    have hn':f.name ≠ "_" := by simpa using hn
    unfold Op.eqFields
    rw [if_pos hn',run_cellEq e1 d w]
    cases r1
    ·rfl
    ·simp only [Bool.not_true,Bool.false_eq_true,if_false,Bool.true_and]; exact run_fieldsEq d w e2
   ·cases h
theorem pv_eql_struct {t ty:TypeId} {fs:Array Field} [hu:Und P t (.struct fs)] {x y:Operand} {xs ys:List Value} {r:Bool} (hx:ev g x=some (.agg xs.toArray)) (hy:ev g y=some (.agg ys.toArray))
  (hp:P.stoodInHeld t=false) (hm:P.eqGuardType P.depth t=false) (he:fieldsEq P xs.toArray ys.toArray fs.toList=some r):PV P g (.binOp .eql t x y ty) (.bool r):=by
 intro o a w m ho ha; unfold execOp
 have hf:P.fieldsOf t=fs:=by simp [Program.fieldsOf,hu.out]
 have hu':P.underlying t=some (.struct (P.fieldsOf t)):=by rw [hf]; exact hu.out
 have:=run_equalIn_agg (P:=P) w 9999 t xs.toArray ys.toArray hu' hp
 rw [hf,run_fieldsEq 9998 w he] at this
 simp only [ho,ha.ev hx,ha.ev hy,Sem.run_bind,run_eqGuard_agg _ _ _ _ _ _ _ hm,Result.andThen_ok,run_eql_struct,this,Sem.run_pure]
theorem pv_neq_struct {t ty:TypeId} {fs:Array Field} [hu:Und P t (.struct fs)] {x y:Operand} {xs ys:List Value} {r:Bool} (hx:ev g x=some (.agg xs.toArray)) (hy:ev g y=some (.agg ys.toArray))
  (hp:P.stoodInHeld t=false) (hm:P.eqGuardType P.depth t=false) (he:fieldsEq P xs.toArray ys.toArray fs.toList=some r):PV P g (.binOp .neq t x y ty) (.bool (!r)):=by
 intro o a w m ho ha; unfold execOp
 have hf:P.fieldsOf t=fs:=by simp [Program.fieldsOf,hu.out]
 have hu':P.underlying t=some (.struct (P.fieldsOf t)):=by rw [hf]; exact hu.out
 have:=run_equalIn_agg (P:=P) w 9999 t xs.toArray ys.toArray hu' hp
 rw [hf,run_fieldsEq 9998 w he] at this
 simp only [ho,ha.ev hx,ha.ev hy,Sem.run_bind,run_eqGuard_agg _ _ _ _ _ _ _ hm,Result.andThen_ok,run_neq_struct,this,Sem.run_pure]
end
set_option maxHeartbeats 1000000
attribute [local irreducible] xY yW xC
theorem pv_closure {P:Program} {g:Env} {k:Nat} {cap:List Operand} {vs:List Value} (h:evs g cap=some vs):PV P g (.makeFunc (.func k) #[] cap.toArray) (.func (.func k) #[] vs.toArray):=by
 intro o a w n ho ha; unfold execOp
 simp [ho,Instr.makeFunc,ha.evs h]
theorem yO.frameL {P:Program} {w0:World} {f:FuncId} {args:List Value} {Y X R:Hp} {v:Value} (e:X=Y+R) (h:yO P w0 f args Y (fun r h'=>r=v∧Y=h')):yO P w0 f args X (fun r h'=>r=v∧X=h'):=by
 subst e
 intro w fr hw
 rw [yZ] at hw
 refine (h w _ hw).mono ?_
 rintro e w' ⟨u,h',he,⟨rfl,rfl⟩,hst⟩
 exact ⟨_,_,he,⟨rfl,rfl⟩,by rw [yZ]; exact hst⟩
theorem isNaN_spec (w0:World) (a:Int):yO Tryz.prog w0 224 [.int .i64 a] 0 (fun r h'=>r=.bool false∧0=h'):=by
 refine spec_of_hold Tryz.func224 M Tryz.ntmps224 Tryz.results224 M fun fr=>?_
 repeat (first|refine zF ?_|refine zR ?_|refine yC ?_|refine zB ?_|refine zE ?_|refine zK M M M ?_|refine zY M M M M M ?_|refine yM M M M M M ?_|refine yT M M M ?_|refine xE M M ?_|refine zP ?_|refine zM ?_|refine zJ M ?_|refine zI M ?_|refine yU M M (by omega) (by omega) M M ?_|refine gA M M (by omega) (by omega) M M ?_|refine xD M M M (c':=[_]) M M M M ?_|refine xD M M M (c':=[_,_]) M M M M ?_|refine xD M M M (c':=[_,_,_]) M M M M ?_|refine xD M M M (c':=[_,_,_,_]) M M M M ?_|refine xD M M M (c':=[_,_,_,_,_]) M M M M ?_|refine xD M M M (c':=[_,_,_,_,_,_]) M M M M ?_|refine xJ M (vs:=[_,_]) M M M M M ?_|refine xJ M (vs:=[_,_,_]) M M M M M ?_|refine xJ M (vs:=[_,_,_,_]) M M M M M ?_|refine yY M (vs:=[_,_]) M M M M (c':=[_,_]) M M ?_|refine yY M (vs:=[_,_,_]) M M M M (c':=[_,_,_]) M M ?_|refine yY M (vs:=[_,_,_,_]) M M M M (c':=[_,_,_,_]) M M ?_|refine yL (cells:=[_]) M M M M ?_|refine yL (cells:=[_,_]) M M M M ?_|refine yL (cells:=[_,_,_]) M M M M ?_|refine yL (cells:=[_,_,_,_]) M M M M ?_|refine yL (cells:=[_,_,_,_,_]) M M M M ?_|refine yL (cells:=[_,_,_,_,_,_]) M M M M ?_|refine yL (cells:=[_,_,_,_,_,_,_]) M M M M ?_|refine yL (cells:=[_,_,_,_,_,_,_,_]) M M M M ?_)
 refine yP M M (xZ M M) (by simp) ?_
 repeat (first|refine zF ?_|refine zR ?_|refine yC ?_|refine zB ?_|refine zE ?_|refine zK M M M ?_|refine zY M M M M M ?_|refine yM M M M M M ?_|refine yT M M M ?_|refine xE M M ?_|refine zP ?_|refine zM ?_|refine zJ M ?_|refine zI M ?_|refine yU M M (by omega) (by omega) M M ?_|refine gA M M (by omega) (by omega) M M ?_|refine xD M M M (c':=[_]) M M M M ?_|refine xD M M M (c':=[_,_]) M M M M ?_|refine xD M M M (c':=[_,_,_]) M M M M ?_|refine xD M M M (c':=[_,_,_,_]) M M M M ?_|refine xD M M M (c':=[_,_,_,_,_]) M M M M ?_|refine xD M M M (c':=[_,_,_,_,_,_]) M M M M ?_|refine xJ M (vs:=[_,_]) M M M M M ?_|refine xJ M (vs:=[_,_,_]) M M M M M ?_|refine xJ M (vs:=[_,_,_,_]) M M M M M ?_|refine yY M (vs:=[_,_]) M M M M (c':=[_,_]) M M ?_|refine yY M (vs:=[_,_,_]) M M M M (c':=[_,_,_]) M M ?_|refine yY M (vs:=[_,_,_,_]) M M M M (c':=[_,_,_,_]) M M ?_|refine yL (cells:=[_]) M M M M ?_|refine yL (cells:=[_,_]) M M M M ?_|refine yL (cells:=[_,_,_]) M M M M ?_|refine yL (cells:=[_,_,_,_]) M M M M ?_|refine yL (cells:=[_,_,_,_,_]) M M M M ?_|refine yL (cells:=[_,_,_,_,_,_]) M M M M ?_|refine yL (cells:=[_,_,_,_,_,_,_]) M M M M ?_|refine yL (cells:=[_,_,_,_,_,_,_,_]) M M M M ?_)
 exact ⟨[_],_,⟨rfl,trivial⟩,⟨rfl,rfl⟩,rfl⟩
def cmpI (a b:Int):Int:=if a<b then -1 else if b<a then 1 else 0
theorem compare_spec (w0:World) (a b:Int):yO Tryz.prog w0 151 [.int .i64 a,.int .i64 b] 0 (fun r h'=>r=.int .i64 (cmpI a b)∧0=h'):=by
 refine zN Tryz.func151 M Tryz.ntmps151 Tryz.results151 M fun fr=>?_
 repeat (first|refine zF ?_|refine zR ?_|refine yC ?_|refine zB ?_|refine zE ?_|refine zK M M M ?_|refine zY M M M M M ?_|refine yM M M M M M ?_|refine yT M M M ?_|refine xE M M ?_|refine zP ?_|refine zM ?_|refine zJ M ?_|refine zI M ?_|refine yU M M (by omega) (by omega) M M ?_|refine gA M M (by omega) (by omega) M M ?_|refine xD M M M (c':=[_]) M M M M ?_|refine xD M M M (c':=[_,_]) M M M M ?_|refine xD M M M (c':=[_,_,_]) M M M M ?_|refine xD M M M (c':=[_,_,_,_]) M M M M ?_|refine xD M M M (c':=[_,_,_,_,_]) M M M M ?_|refine xD M M M (c':=[_,_,_,_,_,_]) M M M M ?_|refine xJ M (vs:=[_,_]) M M M M M ?_|refine xJ M (vs:=[_,_,_]) M M M M M ?_|refine xJ M (vs:=[_,_,_,_]) M M M M M ?_|refine yY M (vs:=[_,_]) M M M M (c':=[_,_]) M M ?_|refine yY M (vs:=[_,_,_]) M M M M (c':=[_,_,_]) M M ?_|refine yY M (vs:=[_,_,_,_]) M M M M (c':=[_,_,_,_]) M M ?_|refine yL (cells:=[_]) M M M M ?_|refine yL (cells:=[_,_]) M M M M ?_|refine yL (cells:=[_,_,_]) M M M M ?_|refine yL (cells:=[_,_,_,_]) M M M M ?_|refine yL (cells:=[_,_,_,_,_]) M M M M ?_|refine yL (cells:=[_,_,_,_,_,_]) M M M M ?_|refine yL (cells:=[_,_,_,_,_,_,_]) M M M M ?_|refine yL (cells:=[_,_,_,_,_,_,_,_]) M M M M ?_)
 refine zX M M (zQ M M M) (isNaN_spec w0 a) ?_
 rintro _ _ ⟨rfl,rfl⟩
 repeat (first|refine zF ?_|refine zR ?_|refine yC ?_|refine zB ?_|refine zE ?_|refine zK M M M ?_|refine zY M M M M M ?_|refine yM M M M M M ?_|refine yT M M M ?_|refine xE M M ?_|refine zP ?_|refine zM ?_|refine zJ M ?_|refine zI M ?_|refine yU M M (by omega) (by omega) M M ?_|refine gA M M (by omega) (by omega) M M ?_|refine xD M M M (c':=[_]) M M M M ?_|refine xD M M M (c':=[_,_]) M M M M ?_|refine xD M M M (c':=[_,_,_]) M M M M ?_|refine xD M M M (c':=[_,_,_,_]) M M M M ?_|refine xD M M M (c':=[_,_,_,_,_]) M M M M ?_|refine xD M M M (c':=[_,_,_,_,_,_]) M M M M ?_|refine xJ M (vs:=[_,_]) M M M M M ?_|refine xJ M (vs:=[_,_,_]) M M M M M ?_|refine xJ M (vs:=[_,_,_,_]) M M M M M ?_|refine yY M (vs:=[_,_]) M M M M (c':=[_,_]) M M ?_|refine yY M (vs:=[_,_,_]) M M M M (c':=[_,_,_]) M M ?_|refine yY M (vs:=[_,_,_,_]) M M M M (c':=[_,_,_,_]) M M ?_|refine yL (cells:=[_]) M M M M ?_|refine yL (cells:=[_,_]) M M M M ?_|refine yL (cells:=[_,_,_]) M M M M ?_|refine yL (cells:=[_,_,_,_]) M M M M ?_|refine yL (cells:=[_,_,_,_,_]) M M M M ?_|refine yL (cells:=[_,_,_,_,_,_]) M M M M ?_|refine yL (cells:=[_,_,_,_,_,_,_]) M M M M ?_|refine yL (cells:=[_,_,_,_,_,_,_,_]) M M M M ?_)
 refine zX M M (zQ M M M) (isNaN_spec w0 b) ?_
 rintro _ _ ⟨rfl,rfl⟩
 repeat (first|refine zF ?_|refine zR ?_|refine yC ?_|refine zB ?_|refine zE ?_|refine zK M M M ?_|refine zY M M M M M ?_|refine yM M M M M M ?_|refine yT M M M ?_|refine xE M M ?_|refine zP ?_|refine zM ?_|refine zJ M ?_|refine zI M ?_|refine yU M M (by omega) (by omega) M M ?_|refine gA M M (by omega) (by omega) M M ?_|refine xD M M M (c':=[_]) M M M M ?_|refine xD M M M (c':=[_,_]) M M M M ?_|refine xD M M M (c':=[_,_,_]) M M M M ?_|refine xD M M M (c':=[_,_,_,_]) M M M M ?_|refine xD M M M (c':=[_,_,_,_,_]) M M M M ?_|refine xD M M M (c':=[_,_,_,_,_,_]) M M M M ?_|refine xJ M (vs:=[_,_]) M M M M M ?_|refine xJ M (vs:=[_,_,_]) M M M M M ?_|refine xJ M (vs:=[_,_,_,_]) M M M M M ?_|refine yY M (vs:=[_,_]) M M M M (c':=[_,_]) M M ?_|refine yY M (vs:=[_,_,_]) M M M M (c':=[_,_,_]) M M ?_|refine yY M (vs:=[_,_,_,_]) M M M M (c':=[_,_,_,_]) M M ?_|refine yL (cells:=[_]) M M M M ?_|refine yL (cells:=[_,_]) M M M M ?_|refine yL (cells:=[_,_,_]) M M M M ?_|refine yL (cells:=[_,_,_,_]) M M M M ?_|refine yL (cells:=[_,_,_,_,_]) M M M M ?_|refine yL (cells:=[_,_,_,_,_,_]) M M M M ?_|refine yL (cells:=[_,_,_,_,_,_,_]) M M M M ?_|refine yL (cells:=[_,_,_,_,_,_,_,_]) M M M M ?_)
 unfold cmpI
 refine yF M M (yS M M) (fun h1=>?_) (fun h1=>?_)
 ·repeat (first|refine zF ?_|refine zR ?_|refine yC ?_|refine zB ?_|refine zE ?_|refine zK M M M ?_|refine zY M M M M M ?_|refine yM M M M M M ?_|refine yT M M M ?_|refine xE M M ?_|refine zP ?_|refine zM ?_|refine zJ M ?_|refine zI M ?_|refine yU M M (by omega) (by omega) M M ?_|refine gA M M (by omega) (by omega) M M ?_|refine xD M M M (c':=[_]) M M M M ?_|refine xD M M M (c':=[_,_]) M M M M ?_|refine xD M M M (c':=[_,_,_]) M M M M ?_|refine xD M M M (c':=[_,_,_,_]) M M M M ?_|refine xD M M M (c':=[_,_,_,_,_]) M M M M ?_|refine xD M M M (c':=[_,_,_,_,_,_]) M M M M ?_|refine xJ M (vs:=[_,_]) M M M M M ?_|refine xJ M (vs:=[_,_,_]) M M M M M ?_|refine xJ M (vs:=[_,_,_,_]) M M M M M ?_|refine yY M (vs:=[_,_]) M M M M (c':=[_,_]) M M ?_|refine yY M (vs:=[_,_,_]) M M M M (c':=[_,_,_]) M M ?_|refine yY M (vs:=[_,_,_,_]) M M M M (c':=[_,_,_,_]) M M ?_|refine yL (cells:=[_]) M M M M ?_|refine yL (cells:=[_,_]) M M M M ?_|refine yL (cells:=[_,_,_]) M M M M ?_|refine yL (cells:=[_,_,_,_]) M M M M ?_|refine yL (cells:=[_,_,_,_,_]) M M M M ?_|refine yL (cells:=[_,_,_,_,_,_]) M M M M ?_|refine yL (cells:=[_,_,_,_,_,_,_]) M M M M ?_|refine yL (cells:=[_,_,_,_,_,_,_,_]) M M M M ?_)
  exact ⟨[_],0,_,⟨rfl,trivial⟩,⟨by rw [if_pos h1]; rfl,rfl⟩,yJ.out⟩
 ·repeat (first|refine zF ?_|refine zR ?_|refine yC ?_|refine zB ?_|refine zE ?_|refine zK M M M ?_|refine zY M M M M M ?_|refine yM M M M M M ?_|refine yT M M M ?_|refine xE M M ?_|refine zP ?_|refine zM ?_|refine zJ M ?_|refine zI M ?_|refine yU M M (by omega) (by omega) M M ?_|refine gA M M (by omega) (by omega) M M ?_|refine xD M M M (c':=[_]) M M M M ?_|refine xD M M M (c':=[_,_]) M M M M ?_|refine xD M M M (c':=[_,_,_]) M M M M ?_|refine xD M M M (c':=[_,_,_,_]) M M M M ?_|refine xD M M M (c':=[_,_,_,_,_]) M M M M ?_|refine xD M M M (c':=[_,_,_,_,_,_]) M M M M ?_|refine xJ M (vs:=[_,_]) M M M M M ?_|refine xJ M (vs:=[_,_,_]) M M M M M ?_|refine xJ M (vs:=[_,_,_,_]) M M M M M ?_|refine yY M (vs:=[_,_]) M M M M (c':=[_,_]) M M ?_|refine yY M (vs:=[_,_,_]) M M M M (c':=[_,_,_]) M M ?_|refine yY M (vs:=[_,_,_,_]) M M M M (c':=[_,_,_,_]) M M ?_|refine yL (cells:=[_]) M M M M ?_|refine yL (cells:=[_,_]) M M M M ?_|refine yL (cells:=[_,_,_]) M M M M ?_|refine yL (cells:=[_,_,_,_]) M M M M ?_|refine yL (cells:=[_,_,_,_,_]) M M M M ?_|refine yL (cells:=[_,_,_,_,_,_]) M M M M ?_|refine yL (cells:=[_,_,_,_,_,_,_]) M M M M ?_|refine yL (cells:=[_,_,_,_,_,_,_,_]) M M M M ?_)
  refine yF M M (kB M M) (fun h2=>?_) (fun h2=>?_)
  ·repeat (first|refine zF ?_|refine zR ?_|refine yC ?_|refine zB ?_|refine zE ?_|refine zK M M M ?_|refine zY M M M M M ?_|refine yM M M M M M ?_|refine yT M M M ?_|refine xE M M ?_|refine zP ?_|refine zM ?_|refine zJ M ?_|refine zI M ?_|refine yU M M (by omega) (by omega) M M ?_|refine gA M M (by omega) (by omega) M M ?_|refine xD M M M (c':=[_]) M M M M ?_|refine xD M M M (c':=[_,_]) M M M M ?_|refine xD M M M (c':=[_,_,_]) M M M M ?_|refine xD M M M (c':=[_,_,_,_]) M M M M ?_|refine xD M M M (c':=[_,_,_,_,_]) M M M M ?_|refine xD M M M (c':=[_,_,_,_,_,_]) M M M M ?_|refine xJ M (vs:=[_,_]) M M M M M ?_|refine xJ M (vs:=[_,_,_]) M M M M M ?_|refine xJ M (vs:=[_,_,_,_]) M M M M M ?_|refine yY M (vs:=[_,_]) M M M M (c':=[_,_]) M M ?_|refine yY M (vs:=[_,_,_]) M M M M (c':=[_,_,_]) M M ?_|refine yY M (vs:=[_,_,_,_]) M M M M (c':=[_,_,_,_]) M M ?_|refine yL (cells:=[_]) M M M M ?_|refine yL (cells:=[_,_]) M M M M ?_|refine yL (cells:=[_,_,_]) M M M M ?_|refine yL (cells:=[_,_,_,_]) M M M M ?_|refine yL (cells:=[_,_,_,_,_]) M M M M ?_|refine yL (cells:=[_,_,_,_,_,_]) M M M M ?_|refine yL (cells:=[_,_,_,_,_,_,_]) M M M M ?_|refine yL (cells:=[_,_,_,_,_,_,_,_]) M M M M ?_)
   exact ⟨[_],0,_,⟨rfl,trivial⟩,⟨by rw [if_neg h1,if_pos h2]; rfl,rfl⟩,yJ.out⟩
  ·repeat (first|refine zF ?_|refine zR ?_|refine yC ?_|refine zB ?_|refine zE ?_|refine zK M M M ?_|refine zY M M M M M ?_|refine yM M M M M M ?_|refine yT M M M ?_|refine xE M M ?_|refine zP ?_|refine zM ?_|refine zJ M ?_|refine zI M ?_|refine yU M M (by omega) (by omega) M M ?_|refine gA M M (by omega) (by omega) M M ?_|refine xD M M M (c':=[_]) M M M M ?_|refine xD M M M (c':=[_,_]) M M M M ?_|refine xD M M M (c':=[_,_,_]) M M M M ?_|refine xD M M M (c':=[_,_,_,_]) M M M M ?_|refine xD M M M (c':=[_,_,_,_,_]) M M M M ?_|refine xD M M M (c':=[_,_,_,_,_,_]) M M M M ?_|refine xJ M (vs:=[_,_]) M M M M M ?_|refine xJ M (vs:=[_,_,_]) M M M M M ?_|refine xJ M (vs:=[_,_,_,_]) M M M M M ?_|refine yY M (vs:=[_,_]) M M M M (c':=[_,_]) M M ?_|refine yY M (vs:=[_,_,_]) M M M M (c':=[_,_,_]) M M ?_|refine yY M (vs:=[_,_,_,_]) M M M M (c':=[_,_,_,_]) M M ?_|refine yL (cells:=[_]) M M M M ?_|refine yL (cells:=[_,_]) M M M M ?_|refine yL (cells:=[_,_,_]) M M M M ?_|refine yL (cells:=[_,_,_,_]) M M M M ?_|refine yL (cells:=[_,_,_,_,_]) M M M M ?_|refine yL (cells:=[_,_,_,_,_,_]) M M M M ?_|refine yL (cells:=[_,_,_,_,_,_,_]) M M M M ?_|refine yL (cells:=[_,_,_,_,_,_,_,_]) M M M M ?_)
   exact ⟨[_],0,_,⟨rfl,trivial⟩,⟨by rw [if_neg h1,if_neg h2]; rfl,rfl⟩,yJ.out⟩
theorem indexI_spec (w0:World) (X:Hp) (v:Value) (xs:List Int) (p:Int) (hv:uA w0 X 1 v (bN xs)) (hl:xs.length≤1000000000) :
  yO Tryz.prog w0 203 [v,.int .i64 p] X (fun r h'=>∃ i:Int,r=.int .i64 i∧(0≤i↔p∈xs)∧X=h'):=by
 obtain ⟨a,c,rfl,ha⟩:=id hv
 rw [kM] at *
 refine zN Tryz.func203 M Tryz.ntmps203 Tryz.results203 M fun fr=>?_
 repeat (first|refine zF ?_|refine zR ?_|refine yC ?_|refine zB ?_|refine zE ?_|refine zK M M M ?_|refine zY M M M M M ?_|refine yM M M M M M ?_|refine yT M M M ?_|refine xE M M ?_|refine zP ?_|refine zM ?_|refine zJ M ?_|refine zI M ?_|refine yU M M (by omega) (by omega) M M ?_|refine gA M M (by omega) (by omega) M M ?_|refine xD M M M (c':=[_]) M M M M ?_|refine xD M M M (c':=[_,_]) M M M M ?_|refine xD M M M (c':=[_,_,_]) M M M M ?_|refine xD M M M (c':=[_,_,_,_]) M M M M ?_|refine xD M M M (c':=[_,_,_,_,_]) M M M M ?_|refine xD M M M (c':=[_,_,_,_,_,_]) M M M M ?_|refine xJ M (vs:=[_,_]) M M M M M ?_|refine xJ M (vs:=[_,_,_]) M M M M M ?_|refine xJ M (vs:=[_,_,_,_]) M M M M M ?_|refine yY M (vs:=[_,_]) M M M M (c':=[_,_]) M M ?_|refine yY M (vs:=[_,_,_]) M M M M (c':=[_,_,_]) M M ?_|refine yY M (vs:=[_,_,_,_]) M M M M (c':=[_,_,_,_]) M M ?_|refine yL (cells:=[_]) M M M M ?_|refine yL (cells:=[_,_]) M M M M ?_|refine yL (cells:=[_,_,_]) M M M M ?_|refine yL (cells:=[_,_,_,_]) M M M M ?_|refine yL (cells:=[_,_,_,_,_]) M M M M ?_|refine yL (cells:=[_,_,_,_,_,_]) M M M M ?_|refine yL (cells:=[_,_,_,_,_,_,_]) M M M M ?_|refine yL (cells:=[_,_,_,_,_,_,_,_]) M M M M ?_)
 refine gR (fun m g L=>∃ k:Nat,k≤xs.length∧m=xs.length - k∧g=[(0,.slice a xs.length c),(1,.int .i64 p),(7,.int .i64 xs.length),(8,.int .i64 k)]∧L=X+fr∧p∉xs.take k) _ _ ⟨0,by omega,rfl,rfl,rfl,by simp⟩ (by repeat (first|exact zT _|refine zO M ?_)) ?_
 rintro m g L ⟨k,hk,rfl,rfl,rfl,hpre⟩
 repeat (first|refine zF ?_|refine zR ?_|refine yC ?_|refine zB ?_|refine zE ?_|refine zK M M M ?_|refine zY M M M M M ?_|refine yM M M M M M ?_|refine yT M M M ?_|refine xE M M ?_|refine zP ?_|refine zM ?_|refine zJ M ?_|refine zI M ?_|refine yU M M (by omega) (by omega) M M ?_|refine gA M M (by omega) (by omega) M M ?_|refine xD M M M (c':=[_]) M M M M ?_|refine xD M M M (c':=[_,_]) M M M M ?_|refine xD M M M (c':=[_,_,_]) M M M M ?_|refine xD M M M (c':=[_,_,_,_]) M M M M ?_|refine xD M M M (c':=[_,_,_,_,_]) M M M M ?_|refine xD M M M (c':=[_,_,_,_,_,_]) M M M M ?_|refine xJ M (vs:=[_,_]) M M M M M ?_|refine xJ M (vs:=[_,_,_]) M M M M M ?_|refine xJ M (vs:=[_,_,_,_]) M M M M M ?_|refine yY M (vs:=[_,_]) M M M M (c':=[_,_]) M M ?_|refine yY M (vs:=[_,_,_]) M M M M (c':=[_,_,_]) M M ?_|refine yY M (vs:=[_,_,_,_]) M M M M (c':=[_,_,_,_]) M M ?_|refine yL (cells:=[_]) M M M M ?_|refine yL (cells:=[_,_]) M M M M ?_|refine yL (cells:=[_,_,_]) M M M M ?_|refine yL (cells:=[_,_,_,_]) M M M M ?_|refine yL (cells:=[_,_,_,_,_]) M M M M ?_|refine yL (cells:=[_,_,_,_,_,_]) M M M M ?_|refine yL (cells:=[_,_,_,_,_,_,_]) M M M M ?_|refine yL (cells:=[_,_,_,_,_,_,_,_]) M M M M ?_)
 refine yF M M (yS M M) (fun h2=>?_) (fun h2=>?_)
 ·have hx:k<xs.length:=by omega
  obtain ⟨b2,o2,rfl,hc2⟩:=ha.2 k _ (enc1_at hx)
  repeat (first|refine zF ?_|refine zR ?_|refine yC ?_|refine zB ?_|refine zE ?_|refine zK M M M ?_|refine zY M M M M M ?_|refine yM M M M M M ?_|refine yT M M M ?_|refine xE M M ?_|refine zP ?_|refine zM ?_|refine zJ M ?_|refine zI M ?_|refine yU M M (by omega) (by omega) M M ?_|refine gA M M (by omega) (by omega) M M ?_|refine xD M M M (c':=[_]) M M M M ?_|refine xD M M M (c':=[_,_]) M M M M ?_|refine xD M M M (c':=[_,_,_]) M M M M ?_|refine xD M M M (c':=[_,_,_,_]) M M M M ?_|refine xD M M M (c':=[_,_,_,_,_]) M M M M ?_|refine xD M M M (c':=[_,_,_,_,_,_]) M M M M ?_|refine xJ M (vs:=[_,_]) M M M M M ?_|refine xJ M (vs:=[_,_,_]) M M M M M ?_|refine xJ M (vs:=[_,_,_,_]) M M M M M ?_|refine yY M (vs:=[_,_]) M M M M (c':=[_,_]) M M ?_|refine yY M (vs:=[_,_,_]) M M M M (c':=[_,_,_]) M M ?_|refine yY M (vs:=[_,_,_,_]) M M M M (c':=[_,_,_,_]) M M ?_|refine yL (cells:=[_]) M M M M ?_|refine yL (cells:=[_,_]) M M M M ?_|refine yL (cells:=[_,_,_]) M M M M ?_|refine yL (cells:=[_,_,_,_]) M M M M ?_|refine yL (cells:=[_,_,_,_,_]) M M M M ?_|refine yL (cells:=[_,_,_,_,_,_]) M M M M ?_|refine yL (cells:=[_,_,_,_,_,_,_]) M M M M ?_|refine yL (cells:=[_,_,_,_,_,_,_,_]) M M M M ?_)
  refine yG M M (wT M M hx) ?_
  refine dJ M M (yE M) (zG M ((hc2 0 _ rfl).frame)) ?_
  refine yF M M (yK M M) (fun h3=>?_) (fun h3=>?_)
  ·repeat (first|refine zF ?_|refine zR ?_|refine yC ?_|refine zB ?_|refine zE ?_|refine zK M M M ?_|refine zY M M M M M ?_|refine yM M M M M M ?_|refine yT M M M ?_|refine xE M M ?_|refine zP ?_|refine zM ?_|refine zJ M ?_|refine zI M ?_|refine yU M M (by omega) (by omega) M M ?_|refine gA M M (by omega) (by omega) M M ?_|refine xD M M M (c':=[_]) M M M M ?_|refine xD M M M (c':=[_,_]) M M M M ?_|refine xD M M M (c':=[_,_,_]) M M M M ?_|refine xD M M M (c':=[_,_,_,_]) M M M M ?_|refine xD M M M (c':=[_,_,_,_,_]) M M M M ?_|refine xD M M M (c':=[_,_,_,_,_,_]) M M M M ?_|refine xJ M (vs:=[_,_]) M M M M M ?_|refine xJ M (vs:=[_,_,_]) M M M M M ?_|refine xJ M (vs:=[_,_,_,_]) M M M M M ?_|refine yY M (vs:=[_,_]) M M M M (c':=[_,_]) M M ?_|refine yY M (vs:=[_,_,_]) M M M M (c':=[_,_,_]) M M ?_|refine yY M (vs:=[_,_,_,_]) M M M M (c':=[_,_,_,_]) M M ?_|refine yL (cells:=[_]) M M M M ?_|refine yL (cells:=[_,_]) M M M M ?_|refine yL (cells:=[_,_,_]) M M M M ?_|refine yL (cells:=[_,_,_,_]) M M M M ?_|refine yL (cells:=[_,_,_,_,_]) M M M M ?_|refine yL (cells:=[_,_,_,_,_,_]) M M M M ?_|refine yL (cells:=[_,_,_,_,_,_,_]) M M M M ?_|refine yL (cells:=[_,_,_,_,_,_,_,_]) M M M M ?_)
   exact ⟨[_],X,_,⟨rfl,trivial⟩,⟨_,rfl,⟨fun _=>by rw [h3,show xs.getD k 0=xs[k] by simp [List.getD,hx]]; exact List.getElem_mem hx,fun _=>by omega⟩,rfl⟩,yJ.out⟩
  ·repeat (first|refine zF ?_|refine zR ?_|refine yC ?_|refine zB ?_|refine zE ?_|refine zK M M M ?_|refine zY M M M M M ?_|refine yM M M M M M ?_|refine yT M M M ?_|refine xE M M ?_|refine zP ?_|refine zM ?_|refine zJ M ?_|refine zI M ?_|refine yU M M (by omega) (by omega) M M ?_|refine gA M M (by omega) (by omega) M M ?_|refine xD M M M (c':=[_]) M M M M ?_|refine xD M M M (c':=[_,_]) M M M M ?_|refine xD M M M (c':=[_,_,_]) M M M M ?_|refine xD M M M (c':=[_,_,_,_]) M M M M ?_|refine xD M M M (c':=[_,_,_,_,_]) M M M M ?_|refine xD M M M (c':=[_,_,_,_,_,_]) M M M M ?_|refine xJ M (vs:=[_,_]) M M M M M ?_|refine xJ M (vs:=[_,_,_]) M M M M M ?_|refine xJ M (vs:=[_,_,_,_]) M M M M M ?_|refine yY M (vs:=[_,_]) M M M M (c':=[_,_]) M M ?_|refine yY M (vs:=[_,_,_]) M M M M (c':=[_,_,_]) M M ?_|refine yY M (vs:=[_,_,_,_]) M M M M (c':=[_,_,_,_]) M M ?_|refine yL (cells:=[_]) M M M M ?_|refine yL (cells:=[_,_]) M M M M ?_|refine yL (cells:=[_,_,_]) M M M M ?_|refine yL (cells:=[_,_,_,_]) M M M M ?_|refine yL (cells:=[_,_,_,_,_]) M M M M ?_|refine yL (cells:=[_,_,_,_,_,_]) M M M M ?_|refine yL (cells:=[_,_,_,_,_,_,_]) M M M M ?_|refine yL (cells:=[_,_,_,_,_,_,_,_]) M M M M ?_)
   rw [show xs.getD k 0=xs[k] by simp [List.getD,hx]] at h3
   exact ⟨xs.length - (k+1),_,by omega,(by repeat (first|exact zT _|refine zO M ?_)),k+1,by omega,rfl,rfl,rfl,by rw [List.take_succ_eq_append_getElem hx,List.mem_append,List.mem_singleton]; exact fun h=>h.elim hpre h3⟩
 ·repeat (first|refine zF ?_|refine zR ?_|refine yC ?_|refine zB ?_|refine zE ?_|refine zK M M M ?_|refine zY M M M M M ?_|refine yM M M M M M ?_|refine yT M M M ?_|refine xE M M ?_|refine zP ?_|refine zM ?_|refine zJ M ?_|refine zI M ?_|refine yU M M (by omega) (by omega) M M ?_|refine gA M M (by omega) (by omega) M M ?_|refine xD M M M (c':=[_]) M M M M ?_|refine xD M M M (c':=[_,_]) M M M M ?_|refine xD M M M (c':=[_,_,_]) M M M M ?_|refine xD M M M (c':=[_,_,_,_]) M M M M ?_|refine xD M M M (c':=[_,_,_,_,_]) M M M M ?_|refine xD M M M (c':=[_,_,_,_,_,_]) M M M M ?_|refine xJ M (vs:=[_,_]) M M M M M ?_|refine xJ M (vs:=[_,_,_]) M M M M M ?_|refine xJ M (vs:=[_,_,_,_]) M M M M M ?_|refine yY M (vs:=[_,_]) M M M M (c':=[_,_]) M M ?_|refine yY M (vs:=[_,_,_]) M M M M (c':=[_,_,_]) M M ?_|refine yY M (vs:=[_,_,_,_]) M M M M (c':=[_,_,_,_]) M M ?_|refine yL (cells:=[_]) M M M M ?_|refine yL (cells:=[_,_]) M M M M ?_|refine yL (cells:=[_,_,_]) M M M M ?_|refine yL (cells:=[_,_,_,_]) M M M M ?_|refine yL (cells:=[_,_,_,_,_]) M M M M ?_|refine yL (cells:=[_,_,_,_,_,_]) M M M M ?_|refine yL (cells:=[_,_,_,_,_,_,_]) M M M M ?_|refine yL (cells:=[_,_,_,_,_,_,_,_]) M M M M ?_)
  rw [List.take_of_length_le (by omega)] at hpre
  exact ⟨[_],X,_,⟨rfl,trivial⟩,⟨_,rfl,⟨fun h=>by omega,fun h=>absurd h hpre⟩,rfl⟩,yJ.out⟩
theorem containsI_spec (w0:World) (X:Hp) (v:Value) (xs:List Int) (p:Int) (hv:uA w0 X 1 v (bN xs)) (hl:xs.length≤1000000000) :
  yO Tryz.prog w0 115 [v,.int .i64 p] X (fun r h'=>r=.bool (decide (p∈xs))∧X=h'):=by
 have hi:=indexI_spec w0 X v xs p hv hl
 obtain ⟨a,c,rfl⟩:=hv.shape
 refine zN Tryz.func115 M Tryz.ntmps115 Tryz.results115 M fun fr=>?_
 repeat (first|refine zF ?_|refine zR ?_|refine yC ?_|refine zB ?_|refine zE ?_|refine zK M M M ?_|refine zY M M M M M ?_|refine yM M M M M M ?_|refine yT M M M ?_|refine xE M M ?_|refine zP ?_|refine zM ?_|refine zJ M ?_|refine zI M ?_|refine yU M M (by omega) (by omega) M M ?_|refine gA M M (by omega) (by omega) M M ?_|refine xD M M M (c':=[_]) M M M M ?_|refine xD M M M (c':=[_,_]) M M M M ?_|refine xD M M M (c':=[_,_,_]) M M M M ?_|refine xD M M M (c':=[_,_,_,_]) M M M M ?_|refine xD M M M (c':=[_,_,_,_,_]) M M M M ?_|refine xD M M M (c':=[_,_,_,_,_,_]) M M M M ?_|refine xJ M (vs:=[_,_]) M M M M M ?_|refine xJ M (vs:=[_,_,_]) M M M M M ?_|refine xJ M (vs:=[_,_,_,_]) M M M M M ?_|refine yY M (vs:=[_,_]) M M M M (c':=[_,_]) M M ?_|refine yY M (vs:=[_,_,_]) M M M M (c':=[_,_,_]) M M ?_|refine yY M (vs:=[_,_,_,_]) M M M M (c':=[_,_,_,_]) M M ?_|refine yL (cells:=[_]) M M M M ?_|refine yL (cells:=[_,_]) M M M M ?_|refine yL (cells:=[_,_,_]) M M M M ?_|refine yL (cells:=[_,_,_,_]) M M M M ?_|refine yL (cells:=[_,_,_,_,_]) M M M M ?_|refine yL (cells:=[_,_,_,_,_,_]) M M M M ?_|refine yL (cells:=[_,_,_,_,_,_,_]) M M M M ?_|refine yL (cells:=[_,_,_,_,_,_,_,_]) M M M M ?_)
 refine zX M M (zQ M M M) hi ?_
 rintro _ _ ⟨i,rfl,hiff,rfl⟩
 refine yG M M (kQ M M) ?_
 repeat (first|refine zF ?_|refine zR ?_|refine yC ?_|refine zB ?_|refine zE ?_|refine zK M M M ?_|refine zY M M M M M ?_|refine yM M M M M M ?_|refine yT M M M ?_|refine xE M M ?_|refine zP ?_|refine zM ?_|refine zJ M ?_|refine zI M ?_|refine yU M M (by omega) (by omega) M M ?_|refine gA M M (by omega) (by omega) M M ?_|refine xD M M M (c':=[_]) M M M M ?_|refine xD M M M (c':=[_,_]) M M M M ?_|refine xD M M M (c':=[_,_,_]) M M M M ?_|refine xD M M M (c':=[_,_,_,_]) M M M M ?_|refine xD M M M (c':=[_,_,_,_,_]) M M M M ?_|refine xD M M M (c':=[_,_,_,_,_,_]) M M M M ?_|refine xJ M (vs:=[_,_]) M M M M M ?_|refine xJ M (vs:=[_,_,_]) M M M M M ?_|refine xJ M (vs:=[_,_,_,_]) M M M M M ?_|refine yY M (vs:=[_,_]) M M M M (c':=[_,_]) M M ?_|refine yY M (vs:=[_,_,_]) M M M M (c':=[_,_,_]) M M ?_|refine yY M (vs:=[_,_,_,_]) M M M M (c':=[_,_,_,_]) M M ?_|refine yL (cells:=[_]) M M M M ?_|refine yL (cells:=[_,_]) M M M M ?_|refine yL (cells:=[_,_,_]) M M M M ?_|refine yL (cells:=[_,_,_,_]) M M M M ?_|refine yL (cells:=[_,_,_,_,_]) M M M M ?_|refine yL (cells:=[_,_,_,_,_,_]) M M M M ?_|refine yL (cells:=[_,_,_,_,_,_,_]) M M M M ?_|refine yL (cells:=[_,_,_,_,_,_,_,_]) M M M M ?_)
 exact ⟨[_],X,_,⟨rfl,trivial⟩,⟨congrArg Value.bool (decide_eq_decide.2 hiff),rfl⟩,yJ.out⟩
end Sl
end Go.Proofs.YtfahijncpmlhjaaGreat
namespace Go.Proofs.YtfahijncpmlhjaaGreat
open Go Go.RowKit
namespace Sl
section
variable {P:Program} {w0:World} {L:Hp} {g:Env}
theorem pv_cap {t e:TypeId} [hu:Und P t (.slice e)] {x:Operand} {ad:Option Addr} {len cap:Nat} (hx:ev g x=some (.slice ad len cap)) :
  PV P g (.call { callee:=.builtin .cap,args:=#[x],argTypes:=#[t] }) (.int .i64 cap):=by
 intro o a w n ho ha
 unfold execOp
 simp [ho,resolve,invoke,builtin,ha.ev hx,Builtin.cap_,run_underlying hu.out,goInt]
theorem ev_copy {t e:TypeId} [hu:Und P t (.slice e)] {sz by':Nat} {z:Value} [hi:Inf P e sz by' z] {x y:Operand} {v2:Value} {ns:List (List Value)} {b o dLen dCap n:Nat} {c:List Value} {R:Hp}
  (hx:ev g x=some (.slice (some ⟨b,o,none⟩) dLen dCap)) (hy:ev g y=some v2) (hn:uA w0 L sz v2 ns) (h1:∀ x∈ns.take n,∀ u∈x,u.oneCell'=true)
  [hf:HasPt b L (.cells c.toArray e (0,0)) R] (hmin:Nat.min ns.length dLen=n) (hpos:0<n) (hsz:0<sz) (hfit:o+n*sz≤c.length) :
  EV P w0 L g (.call { callee:=.builtin .copy,args:=#[x,y],argTypes:=#[t,t] }) fun u L'=>u=.int .i64 n ∧
   L'=pt b (.cells (c.take o++(ns.take n).flatten++c.drop (o+n*sz)).toArray e (0,0))+R:=by
 intro op a w m ho ha hst
 obtain ⟨i,i1,i2,i3,i4⟩:=hi.out
 obtain ⟨ad2,c2,rfl,hn⟩:=hn
 have hnl:n≤ns.length:=by rw [← hmin]; exact Nat.min_le_left _ _
 have hlen:(ns.take n).flatten.length=n*sz:=by rw [jL (fun x hx=>hn.1 x (List.mem_of_mem_take hx)),List.length_take,Nat.min_eq_left hnl]
 obtain ⟨b2,o2,rfl,_⟩:=hn.2 0 ns[0] (List.getElem?_eq_getElem (by omega))
 have hsrc:∀ j v,(ns.take n).flatten[j]?=some v→w.cell? ((⟨b2,o2,none⟩:Addr).add j)=some v:=by
  intro j v hv
  have hv':ns.flatten[j]?=some v:=by
   have hj:=(List.getElem?_eq_some_iff.1 hv).1
   have e1:ns.flatten=(ns.take n).flatten++(ns.drop n).flatten:=by rw [← List.flatten_append,List.take_append_drop]
   rw [e1,List.getElem?_append_left hj]; exact hv
  obtain ⟨b3,o3,e3,hr⟩:=hn.flat hv'
  cases e3
  rw [add_none]; exact hr w hst
 have hheap:=hst.at hf
 have hl:=run_loadCells_list (P:=P) (w:=w) ⟨b2,o2,none⟩ (ns.take n).flatten hsrc
 have h1':∀ v∈(ns.take n).flatten,v.oneCell'=true:=fun u hu=>by
  obtain ⟨q,hq,hum⟩:=List.mem_flatten.1 hu
  exact h1 q hq u hum
 have hs:=run_storeCells_at (P:=P) b o e (ns.take n).flatten 0 c.toArray w hheap (by simp only [Nat.add_zero,List.size_toArray,hlen]; exact hfit) h1'
 have hst':St w0 w (pt b (.cells c.toArray e (0,0))+R):=by rw [hf.out] at hst; exact hst
 refine ⟨.int .i64 n,w.setRow b (c.toArray.toList.take o++(ns.take n).flatten++c.toArray.toList.drop (o+(ns.take n).flatten.length)).toArray,_,.inl ?_,⟨rfl,rfl⟩,?_⟩
 ·unfold execOp
  simp only [ho,resolve,invoke,builtin,ha.ev hx,ha.ev hy,List.map_toArray,List.map_cons,List.map_nil,pure_bind]
  simp only [hlen] at hl
  simp only [hlen,Nat.add_zero] at hs ⊢
  simp [Builtin.copy_,run_underlying hu.out,Builtin.lenOf,Builtin.firstCells,sizeOf,typeInfo,i1,i2,hmin,hl,hs,goInt]
 ·refine hst'.set ?_ (fun k hk=>setRow_other w b k _ hk) (by simp) M M M
  rw [setRow_heap w b _ _ e (0,0) hheap,hlen]
theorem ev_append_zeros {t tn e:TypeId} [hu:Und P t (.slice e)] [hun:Und P tn (.int .i64)] {sz by':Nat} {z:Value} [hi:Inf P e sz by' z] {x y:Operand} {b nx cap k:Nat} {c olds:List Value} {R:Hp}
  (hx:ev g x=some (.slice (some ⟨b,0,none⟩) nx cap)) (hy:ev g y=some (.int .i64 (k:Int))) [hf:HasPt b L (.cells c.toArray e (0,0)) R] (hold:c.take (nx*sz)=olds) (hnx:nx*sz≤c.length) (hk:0<k)
  (hsz:(sz==0)=false) (hzs:(z.cells.size==sz)=true) (hroom:cap<nx+k) (hby:(by'==0)=false) (hb:(nx+k)*by'≤140737488355328) :
  EV P w0 L g (.call { callee:=.builtin .append,args:=#[x,y],argTypes:=#[t,tn] }) fun u L'=>∃ (b2 cap2:Nat) (spare:List Value),u=.slice (some ⟨b2,0,none⟩) (nx+k) cap2∧nx+k≤cap2∧cap2≤maxLen∧spare.length=(cap2 - (nx+k))*sz ∧
   L'=pt b2 (.cells (olds++(List.replicate k z.cells.toList).flatten++spare).toArray e (0,0))+L:=by
 intro op a w m ho ha hst
 obtain ⟨i,i1,i2,i3,i4⟩:=hi.out
 have hby':1≤by':=by
   have:by'≠0:=by simpa using hby
   omega
 have hsz':1≤sz:=by
   have:sz≠0:=by simpa using hsz
   omega
 have hzs':z.cells.size=sz:=by simpa using hzs
 have hheap:=hst.at hf
 have hlen:nx+k≤140737488355328:=Nat.le_trans (Nat.le_mul_of_pos_right _ hby') hb
 have hol:olds.length=nx*sz:=by rw [← hold,List.length_take]; omega
 have hsrc:∀ j v,olds[j]?=some v→w.drew.cell? ((⟨b,0,none⟩:Addr).add j)=some v:=by
  intro j v hv
  rw [add_none,Nat.zero_add]
  have hj:=(List.getElem?_eq_some_iff.1 hv).1
  rw [← hold,List.getElem?_take,if_pos (by omega)] at hv
  show (w.drew).cell? _=_
  have hh:w.drew.heap[b]?=some (.cells c.toArray e (0,0)):=hheap
  simp [World.cell?,hh,hv]
 have hl:=run_loadCells_list (P:=P) (w:=w.drew) ⟨b,0,none⟩ olds hsrc
 rw [hol] at hl
 have hfc:(Builtin.firstCells i.size nx (.slice (some ⟨b,0,none⟩) nx cap)).run P w.drew=.ok olds.toArray w.drew:=by
  simp only [Builtin.firstCells,i2]; exact hl
 have hfits:Builtin.nextslicecap (nx+k) cap*by'≤281474976710656:=growslice_fits (by omega) hb
 have hrun:=Lib.run_append_grow_zeros (P:=P) w t tn op.type e i z .i64 .i64 hu.out hun.out i1 i4 (some ⟨b,0,none⟩) nx cap olds hfc k hk (by omega) hroom (by omega)
  (by rw [i3]; exact Nat.le_trans (Nat.mul_le_mul_right _ (by omega:k≤nx+k)) (by omega)) (by rw [i3]; exact hfits)
 refine ⟨_,w.drew.alloc (.cells (olds.toArray++Builtin.zeroCells z.cells k++Builtin.zeroCells z.cells (grownCap w (nx+k) cap e - (nx+k))) e),_,.inl ?_,⟨w.heap.size,grownCap w (nx+k) cap e,(Builtin.zeroCells z.cells (grownCap w (nx+k) cap e - (nx+k))).toList,rfl,grownCap_ge w _ _ _,grownCap_le_maxLen w _ _ _ (by unfold maxLen; omega),?_,rfl⟩,?_⟩
 ·unfold execOp
  simp only [ho,resolve,invoke,builtin,ha.ev hx,ha.ev hy,List.map_toArray,List.map_cons,List.map_nil,pure_bind,Sem.run_bind,hrun,Result.andThen_ok,Sem.run_pure]
 ·simp only [Array.length_toList,size_zeroCells,hzs']
 ·have e1:(olds++(List.replicate k z.cells.toList).flatten++(Builtin.zeroCells z.cells (grownCap w (nx+k) cap e - (nx+k))).toList).toArray=olds.toArray++Builtin.zeroCells z.cells k++Builtin.zeroCells z.cells (grownCap w (nx+k) cap e - (nx+k)):=by
   apply Array.ext'
   simp [zeroCells_eq]
  rw [e1]
  exact hst.drew.alloc _
theorem ev_overlaps {t tR e:TypeId} [hu:Und P t (.slice e)] {sz by':Nat} {z:Value} [hi:Inf P e sz by' z] {k:FuncId} {fn:Func} {x y:Operand} {ts:Array TypeId} {a b la ca lb cb ob:Nat} {c1 c2:List Value} {e1 e2:TypeId} {R:Hp}
  (hfn:P.funcs[k]?=some fn) (hname:(fn.name == "runtime.NumGoroutine")=false) (hb:fn.body.isNone=true) (hn:Extern.findNext fn=none) (he:Extern.find fn=some (Extern.SlicesOverlaps.overlaps #[t,t] #[tR]))
  (hx:ev g x=some (.slice (some ⟨a,0,none⟩) la ca)) (hy:ev g y=some (.slice (some ⟨b,ob,none⟩) lb cb)) [hf:yJ (pt a (.cells c1.toArray e1 (0,0))+pt b (.cells c2.toArray e2 (0,0))) L R] (hc:c2.length≠0) :
  EV P w0 L g (.call { callee:=.value (.func k),args:=#[x,y],argTypes:=ts }) fun u L'=>u=.bool false∧L'=L:=by
 intro op act w m ho ha hst
 obtain ⟨i,i1,i2,i3,i4⟩:=hi.out
 have hst':=hst
 rw [hf.out] at hst'
 have hne:=hst'.sat.left.ne
 have ha1:=hst'.sat.left.left.pt.2
 have hb1:=hst'.sat.left.right.pt.2
 have hz:∀ w,(Go.sizeOf e).run P w=.ok sz w:=fun w=>by simp [sizeOf,typeInfo,i1,i2]
 have hsa:w.shape? a=some (e1,c1.toArray.size):=by simp [World.shape?,ha1]
 have hsb:w.shape? b=some (e2,c2.toArray.size):=by simp [World.shape?,hb1]
 have hf1:w.frozen? ⟨a,0,none⟩=false:=by simp [World.frozen?,ha1]
 have hf2:w.frozen? ⟨a,c1.toArray.size,none⟩=false:=by simp [World.frozen?,ha1]
 have hov:=Lib.run_overlaps_apart (P:=P) w t tR e hu.out sz hz ⟨a,0,none⟩ ⟨b,ob,none⟩ la ca lb cb hne e1 e2 c1.toArray.size c2.toArray.size hsa hsb (by simpa using hc) hf1 hf2
 refine ⟨.bool false,w,L,.inl ?_,⟨rfl,rfl⟩,hst⟩
 unfold execOp
 have hfv:act.eval (.func k)=.func (.func k) #[] #[]:=rfl
 simp only [ho,resolve,hfv,ha.ev hx,ha.ev hy,List.map_toArray,List.map_cons,List.map_nil,Deferred.ofValue,pure_bind,invoke]
 have:=run_callFunc_extern (P:=P) hfn hname hb hn he #[.slice (some ⟨a,0,none⟩) la ca,.slice (some ⟨b,ob,none⟩) lb cb] w
 rw [hov] at this
 simpa using this
end
def kU {α:Type} (R:α→List Value→Prop):List α→List (List Value)→Prop
 | [],[]=>True
 | x::xs,e::es=>R x e∧kU R xs es
 | _,_=>False
section
variable {α:Type} {R S:α→List Value→Prop}
theorem kU.length :∀ {xs:List α} {es:List (List Value)},kU R xs es→es.length=xs.length
 | [],[],_=>rfl
 | x::xs,e::es,h=>by simp [kU.length h.2]
 | [],_::_,h=>by cases h
 | _::_,[],h=>by cases h
theorem kU.get :∀ {xs:List α} {es:List (List Value)},kU R xs es→∀ {i:Nat} (h:i<xs.length),∃ e,es[i]?=some e∧R xs[i] e
 | x::xs,e::es,h,0,_=>⟨e,rfl,h.1⟩
 | x::xs,e::es,h,i+1,hi=>by
  obtain ⟨e',h1,h2⟩:=kU.get h.2 (i:=i) (by simpa using hi)
  exact ⟨e',by simpa using h1,h2⟩
 | [],_,_,i,hi=>by simp at hi
 | _::_,[],h,_,_=>by cases h
theorem kU.append :∀ {xs:List α} {es:List (List Value)},kU R xs es→∀ {ys:List α} {es2:List (List Value)},kU R ys es2→kU R (xs++ys) (es++es2)
 | [],[],_,_,_,h2=>h2
 | x::xs,e::es,h,_,_,h2=>⟨h.1,kU.append h.2 h2⟩
 | [],_::_,h,_,_,_=>by cases h
 | _::_,[],h,_,_,_=>by cases h
theorem kU.mono (hm:∀ x e,R x e→S x e):∀ {xs:List α} {es:List (List Value)},kU R xs es→kU S xs es
 | [],[],_=>trivial
 | x::xs,e::es,h=>⟨hm x e h.1,kU.mono hm h.2⟩
 | [],_::_,h=>by cases h
 | _::_,[],h=>by cases h
theorem kU.all {p:List Value→Prop} (hp:∀ x e,R x e→p e):∀ {xs:List α} {es:List (List Value)},kU R xs es→∀ e∈es,p e
 | [],[],_,e,he=>by cases he
 | x::xs,e::es,h,e',he=>by
  rcases List.mem_cons.1 he with rfl|he
  ·exact hp x _ h.1
  ·exact kU.all hp h.2 e' he
 | [],_::_,h,_,_=>by cases h
 | _::_,[],h,_,_=>by cases h
theorem kU.take :∀ {xs:List α} {es:List (List Value)},kU R xs es→∀ (n:Nat),kU R (xs.take n) (es.take n)
 | [],[],_,n=>by simp [kU]
 | x::xs,e::es,h,0=>by simp [kU]
 | x::xs,e::es,h,n+1=>⟨h.1,kU.take h.2 n⟩
 | [],_::_,h,_=>by cases h
 | _::_,[],h,_=>by cases h
theorem kU.drop :∀ {xs:List α} {es:List (List Value)},kU R xs es→∀ (n:Nat),kU R (xs.drop n) (es.drop n)
 | [],[],_,n=>by simp [kU]
 | x::xs,e::es,h,0=>h
 | x::xs,e::es,h,n+1=>kU.drop (xs:=xs) h.2 n
 | [],_::_,h,_=>by cases h
 | _::_,[],h,_=>by cases h
theorem kU.set :∀ {xs:List α} {es:List (List Value)},kU R xs es→∀ (i:Nat) {x:α} {e:List Value},R x e→kU R (xs.set i x) (es.set i e)
 | [],[],_,_,_,_,_=>by simp [kU]
 | x::xs,e::es,h,0,_,_,hr=>⟨hr,h.2⟩
 | x::xs,e::es,h,i+1,_,_,hr=>⟨h.1,kU.set h.2 i hr⟩
 | [],_::_,h,_,_,_,_=>by cases h
 | _::_,[],h,_,_,_,_=>by cases h
theorem kU.one {x:α} {e:List Value} (h:R x e):kU R [x] [e]:=⟨h,trivial⟩
theorem kU.enc {enc:α→List Value} (hr:∀ x e,R x e↔e=enc x):∀ {xs:List α} {es:List (List Value)},kU R xs es↔es=xs.map enc
 | [],[]=>by simp [kU]
 | x::xs,e::es=>by simp [kU,hr,kU.enc hr (xs:=xs) (es:=es)]
 | [],_::_=>by simp [kU]
 | _::_,[]=>by simp [kU]
end
def At (w0:World) (L:Hp) (b o:Nat) (e:List Value):Prop:=∀ j u,e[j]?=some u→Reads w0 L ⟨b,o+j,none⟩ u
theorem At.frame {w0:World} {X L R:Hp} [hf:yJ X L R] {b o:Nat} {e:List Value} (h:At w0 X b o e):At w0 L b o e:=fun j u hu=>(h j u hu).frame (R:=R)
theorem at_row {w0:World} {b size:Nat} {xs:List (List Value)} {x spare:List Value} {E:TypeId} {fz:Nat × Nat} {i:Nat} (hs:∀ x∈xs,x.length=size) (hx:xs[i]?=some x) :
  At w0 (pt b (.cells (xs.flatten++spare).toArray E fz)) b (0+i*size) x:=fun j u hu=>zS (R:=0) (row_get0 hs spare hx hu)
theorem flat_reps (m:Nat) (z:List Value):(List.replicate m z).flatten.length=m*z.length:=by simp
theorem uA.mono {w0:World} {X L R:Hp} (e:L=X+R) {sz:Nat} {v:Value} {es:List (List Value)} (h:uA w0 X sz v es):uA w0 L sz v es:=uA.frame (hf:=⟨e⟩) h
class Rep (α:Type) where
 tid:TypeId
 size:Nat
 rd:World→Hp→α→List Value→Prop
 len:∀ {w0 L x e},rd w0 L x e→e.length=size
 one:∀ {w0 L x e},rd w0 L x e→∀ u∈e,u.oneCell'=true
 mono:∀ {w0 X L R x e},L=X+R→rd w0 X x e→rd w0 L x e
section
variable {α:Type} [ρ:Rep α] {w0:World}
def RdL (w0:World) (L:Hp) (v:Value) (xs:List α):Prop:=∃ es,uA w0 L ρ.size v es∧kU (ρ.rd w0 L) xs es
def OwL (w0:World) (X:Hp) (xs:List α) (v:Value) (h:Hp):Prop:=∃ es,gH ρ.tid ρ.size es v h∧kU (ρ.rd w0 X) xs es
theorem kU.lens {L:Hp} {xs:List α} {es:List (List Value)} (h:kU (ρ.rd w0 L) xs es):∀ e∈es,e.length=ρ.size:=kU.all (p:=fun e=>e.length=ρ.size) (fun _ _ h=>ρ.len h) h
theorem kU.ones {L:Hp} {xs:List α} {es:List (List Value)} (h:kU (ρ.rd w0 L) xs es):∀ e∈es,∀ u∈e,u.oneCell'=true:=kU.all (p:=fun e=>∀ u∈e,u.oneCell'=true) (fun _ _ h=>ρ.one h) h
theorem RdL.mono {X L R:Hp} (e:L=X+R) {v:Value} {xs:List α} (h:RdL w0 X v xs):RdL w0 L v xs:=let ⟨es,h1,h2⟩:=h; ⟨es,h1.mono e,h2.mono fun _ _=>ρ.mono e⟩
theorem RdL.frame {X L R:Hp} [hf:yJ X L R] {v:Value} {xs:List α} (h:RdL w0 X v xs):RdL w0 L v xs:=h.mono hf.out
theorem OwL.mono {X L R h:Hp} (e:L=X+R) {v:Value} {xs:List α} (H:OwL w0 X xs v h):OwL w0 L xs v h:=let ⟨es,h1,h2⟩:=H; ⟨es,h1,h2.mono fun _ _=>ρ.mono e⟩
theorem RdL.shape {L:Hp} {v:Value} {xs:List α} (h:RdL w0 L v xs):∃ ad c,v=.slice ad xs.length c:=by
 obtain ⟨es,h1,h2⟩:=h
 obtain ⟨ad,c,rfl⟩:=h1.shape
 exact ⟨ad,c,by rw [h2.length]⟩
theorem OwL.shape {X h:Hp} {v:Value} {xs:List α} (H:OwL w0 X xs v h):∃ ad c,v=.slice ad xs.length c:=by
 obtain ⟨es,h1,h2⟩:=H
 obtain ⟨ad,c,rfl⟩:=h1.shape
 exact ⟨ad,c,by rw [h2.length]⟩
theorem OwL.rd {X h L R:Hp} [hf:yJ (X+h) L R] {v:Value} {xs:List α} (H:OwL w0 X xs v h):RdL w0 L v xs:=by
 obtain ⟨es,h1,h2⟩:=H
 have e:=hf.out
 refine ⟨es,(h1.rd (w0:=w0) (L:=X+h) (R:=X)).mono e,h2.mono fun _ _=>ρ.mono (X:=X) (R:=h+R) (by rw [e,yZ])⟩
theorem OwL.rd0 {X h:Hp} {v:Value} {xs:List α} (H:OwL w0 X xs v h):RdL w0 (X+h) v xs:=H.rd (R:=0)
theorem RdL.at {L:Hp} {ad:Option Addr} {n c:Nat} {xs:List α} (h:RdL w0 L (.slice ad n c) xs) {i:Nat} (hi:i<xs.length) :
  ∃ b o,ad=some ⟨b,o,none⟩∧∃ e,ρ.rd w0 L xs[i] e∧At w0 L b (o+i*ρ.size) e:=by
 obtain ⟨es,h1,h2⟩:=h
 obtain ⟨_,h3⟩:=h1.at
 obtain ⟨e,he,hr⟩:=h2.get hi
 obtain ⟨b,o,rfl,hat⟩:=h3.2 i e he
 exact ⟨b,o,rfl,e,hr,hat⟩
theorem RdL.nil (L:Hp) (ad:Option Addr) (c:Nat):RdL w0 L (.slice ad 0 c) ([]:List α):=⟨[],⟨ad,c,rfl,by simp,fun i x hx=>by simp at hx⟩,trivial⟩
theorem OwL.nil (X:Hp) (ad:Option Addr):OwL w0 X ([]:List α) (.slice ad 0 0) 0:=⟨[],⟨by simp,.inl ⟨ad,rfl,rfl,rfl⟩⟩,trivial⟩
theorem RdL.take {L:Hp} {ad:Option Addr} {n c:Nat} {xs:List α} (h:RdL w0 L (.slice ad n c) xs) {m:Nat} (hm:m≤xs.length):RdL w0 L (.slice ad m c) (xs.take m):=by
 obtain ⟨es,h1,h2⟩:=h
 exact ⟨es.take m,h1.take (by rw [h2.length]; exact hm),h2.take m⟩
theorem RdL.drop {L:Hp} {ad:Option Addr} {n c:Nat} {xs:List α} (h:RdL w0 L (.slice ad n c) xs) {l:Nat} (hl:l≤n) (hc:n≤c):RdL w0 L (.slice (shiftA ad l c ρ.size) (n - l) (c - l)) (xs.drop l):=by
 obtain ⟨es,h1,h2⟩:=h
 exact ⟨es.drop l,h1.drop hl hc,h2.drop l⟩
end
section
variable {P:Program} {w0:World} {L:Hp} {g:Env}
theorem xR {α:Type} [ρ:Rep α] {t e:TypeId} [hu:Und P t (.slice e)] {sz by':Nat} {z:Value} [hi:Inf P e sz by' z] {x y:Operand} {v v2:Value} {xs ns:List α} {es2:List (List Value)} {X h R:Hp}
  (hx:ev g x=some v) (hy:ev g y=some v2) (hr:OwL w0 X xs v h) (n1:uA w0 L ρ.size v2 es2) (n2:kU (ρ.rd w0 X) ns es2) [hf:yJ h L R] (he':(ρ.tid==e)=true) (hs':(ρ.size==sz)=true)
  (hby:(by'==0)=false) (hsz:(sz==0)=false) (hzs:(z.cells.size==sz)=true) (hb:(xs.length+ns.length)*by'≤140737488355328) :
  EV P w0 L g (.call { callee:=.builtin .append,args:=#[x,y],argTypes:=#[t,t] }) fun u L'=>∃ h',OwL w0 X (xs++ns) u h'∧L'=h'+R:=by
 obtain rfl:ρ.tid=e:=by simpa using he'
 obtain rfl:ρ.size=sz:=by simpa using hs'
 obtain ⟨es,h1,h2⟩:=hr
 have:=ev_append (P:=P) (w0:=w0) (L:=L) (g:=g) (t:=t) (xs:=es) (ns:=es2) (h:=h) (R:=R) hx hy h1 n1 n2.ones hby hsz hzs (by rw [h2.length,n2.length]; exact hb)
 intro o a w n ho ha hst
 obtain ⟨u,w',L',hr,⟨h',hh,rfl⟩,hst'⟩:=this o a w n ho ha hst
 exact ⟨u,w',_,hr,⟨h',⟨_,hh,h2.append n2⟩,rfl⟩,hst'⟩
end
section
variable {P:Program} {w0:World} {L:Hp}
theorem loads_at {t:TypeId} {d:TypeDesc} [hu:Und P t d] (hd:gG d=true) {X R:Hp} [hf:yJ X L R] {b o:Nat} {e:List Value} (h:At w0 X b o e) {v:Value} (hv:e[0]?=some v):qA P w0 L t ⟨b,o,none⟩ v :=
 zG hd ((h 0 v hv).frame (R:=R))
theorem zV {t:TypeId} {d:TypeDesc} [hu:Und P t d] (hd:gG d=true) {X R:Hp} [hf:yJ X L R] {b o f:Nat} {e:List Value} (h:At w0 X b o e) {v:Value} (hv:e[f]?=some v):qA P w0 L t ⟨b,o+f,none⟩ v :=
 zG hd ((h f v hv).frame (R:=R))
theorem zH {t:TypeId} {d:TypeDesc} [hu:Und P t d] (hd:gG d=false) {sz by':Nat} {z:Value} [hi:Inf P t sz by' z] {X R:Hp} [hf:yJ X L R] {b o:Nat} {e:List Value} (h:At w0 X b o e) (hl:(e.length==sz)=true):qA P w0 L t ⟨b,o,none⟩ (.agg e.toArray) :=
 loads_aggR hd e (by simpa using hl) fun j u hj=>(h j u hj).frame (R:=R)
end
section
variable {P:Program} {n:Nat} {w0:World} {Q:uH} {g:Env} {L:Hp} {ops:Array Oper} {rest:List Oper} {dst:Option Nat} {ty:TypeId} {pos:String} {af:Array Edge} {gd:Option (Nat × Bool)}
theorem kC {t e:TypeId} [hu:Und P t (.slice e)] {sz by':Nat} {z:Value} [hi:Inf P e sz by' z] {x ix:Operand} {b off len cap:Nat} {k:IntKind} {i:Nat}
  (hx:ev g x=some (.slice (some ⟨b,off,none⟩) len cap)) (hix:ev g ix=some (.int k (i:Int))) (h1:i<len)
  (hw:kI ops g gd=some true) (hd:dst.all (·<n)=true) (hk:yW P n w0 ops rest Q (wR g dst (.pointer (some ⟨b,off+i*sz,none⟩))) L) :
  yW P n w0 ops (⟨dst,.indexAddr t x ix,ty,pos,af,gd⟩::rest) Q g L:=yG hw hd (wT hx hix h1) hk
theorem wA {t:TypeId} {d:TypeDesc} [hu:Und P t d] {x:Operand} {X R:Hp} {b o:Nat} {e:List Value} {v:Value}
  (hx:ev g x=some (.pointer (some ⟨b,o,none⟩))) (h:At w0 X b o e) [hf:yJ X L R] (hv:e[0]?=some v) (hn:gG d=true)
  (hw:kI ops g gd=some true) (hd:dst.all (·<n)=true) (hk:yW P n w0 ops rest Q (wR g dst v) L) :
  yW P n w0 ops (⟨dst,.load t x,ty,pos,af,gd⟩::rest) Q g L:=dJ hw hd (yE hx) (loads_at hn h hv) hk
theorem gO {t:TypeId} {d:TypeDesc} [hu:Und P t d] {x:Operand} {X R:Hp} {b o f:Nat} {e:List Value} {v:Value}
  (hx:ev g x=some (.pointer (some ⟨b,o+f,none⟩))) (h:At w0 X b o e) [hf:yJ X L R] (hv:e[f]?=some v) (hn:gG d=true)
  (hw:kI ops g gd=some true) (hd:dst.all (·<n)=true) (hk:yW P n w0 ops rest Q (wR g dst v) L) :
  yW P n w0 ops (⟨dst,.load t x,ty,pos,af,gd⟩::rest) Q g L:=dJ hw hd (yE hx) (zV hn h hv) hk
theorem vU {t:TypeId} {d:TypeDesc} [hu:Und P t d] {sz by':Nat} {z:Value} [hi:Inf P t sz by' z] {x:Operand} {X R:Hp} {b o:Nat} {e:List Value}
  (hx:ev g x=some (.pointer (some ⟨b,o,none⟩))) (h:At w0 X b o e) [hf:yJ X L R] (hl:(e.length==sz)=true) (hn:gG d=false)
  (hw:kI ops g gd=some true) (hd:dst.all (·<n)=true) (hk:yW P n w0 ops rest Q (wR g dst (.agg e.toArray)) L) :
  yW P n w0 ops (⟨dst,.load t x,ty,pos,af,gd⟩::rest) Q g L:=dJ hw hd (yE hx) (zH hn h hl) hk
theorem vM {t e:TypeId} [hu:Und P t (.slice e)] {sz by':Nat} {z:Value} [hi:Inf P e sz by' z] {len:Nat} {parts:List (Nat × Operand)} {vs cells:List Value}
  (hp:evs g (parts.map (·.2))=some vs) (hfill':fillL (fun i=>some (i*sz,sz)) (List.replicate len z.cells.toList).flatten ((parts.map (·.1)).zip vs)=some cells)
  (hlim:decide (len*sz≤16777216)=true) (hz:(z.cells.size==sz)=true) (hw:kI ops g gd=some true) (hd:dst.all (·<n)=true)
  (hk:∀ b,yW P n w0 ops rest Q (wR g dst (.slice (some ⟨b,0,none⟩) len len)) (pt b (.cells cells.toArray e (0,0))+L)) :
  yW P n w0 ops (⟨dst,.buildSlice t len parts.toArray,ty,pos,af,gd⟩::rest) Q g L:=kF hw hd (xV hp hlim hz hfill') (by rintro _ _ ⟨b,rfl,rfl⟩; exact hk b)
theorem uI {k:Nat} {cap:List Operand} {vs:List Value} (h:evs g cap=some vs) (hw:kI ops g gd=some true) (hd:dst.all (·<n)=true) (hk:yW P n w0 ops rest Q (wR g dst (.func (.func k) #[] vs.toArray)) L) :
  yW P n w0 ops (⟨dst,.makeFunc (.func k) #[] cap.toArray,ty,pos,af,gd⟩::rest) Q g L :=
 yG hw hd (v:=.func (.func k) #[] vs.toArray) (by intro o a w n ho ha; unfold execOp; simp [ho,Instr.makeFunc,ha.evs h]) hk
end
section
variable {P:Program} {n:Nat} {w0:World} {Q:uH} {g:Env} {L:Hp} {ops:Array Oper} {eff:List Nat} {W:kK} {listed:Array Bool} {s:List Nat} {i:Nat} {dst:Option Nat} {ty:TypeId} {pos:String} {af:Array Edge} {gd:Option (Nat × Bool)}
theorem gY {t e:TypeId} [hu:Und P t (.slice e)] {sz by':Nat} {z:Value} [hi:Inf P e sz by' z] {x ix:Operand} {b off len cap:Nat} {k:IntKind} {j:Nat} (hi':ops[i]?=some ⟨dst,.indexAddr t x ix,ty,pos,af,gd⟩)
  (hx:ev g x=some (.slice (some ⟨b,off,none⟩) len cap)) (hix:ev g ix=some (.int k (j:Int))) (h1:j<len) (heff:eff.contains i=false) (hw:kI ops g gd=some true) (hd:dst.all (·<n)=true)
  (hk:xC P n w0 ops eff W (listed.setIfInBounds i true) s Q (wR g dst (.pointer (some ⟨b,off+j*sz,none⟩))) L):xC P n w0 ops eff W listed (i::s) Q g L:=yD hi' heff hw hd (wT hx hix h1) hk
theorem W_at {t:TypeId} {d:TypeDesc} [hu:Und P t d] {x:Operand} {X R:Hp} {b o:Nat} {e:List Value} {v:Value} (hi':ops[i]?=some ⟨dst,.load t x,ty,pos,af,gd⟩)
  (hx:ev g x=some (.pointer (some ⟨b,o,none⟩))) (h:At w0 X b o e) [hf:yJ X L R] (hv:e[0]?=some v) (hn:gG d=true) (heff:eff.contains i=false) (hw:kI ops g gd=some true) (hd:dst.all (·<n)=true)
  (hk:xC P n w0 ops eff ((i,t,⟨b,o,none⟩,v)::W) (listed.setIfInBounds i true) s Q (wR g dst v) L):xC P n w0 ops eff W listed (i::s) Q g L:=yQ hi' heff hw hd (yE hx) (loads_at hn h hv) hk
theorem W_atf {t:TypeId} {d:TypeDesc} [hu:Und P t d] {x:Operand} {X R:Hp} {b o f:Nat} {e:List Value} {v:Value} (hi':ops[i]?=some ⟨dst,.load t x,ty,pos,af,gd⟩)
  (hx:ev g x=some (.pointer (some ⟨b,o+f,none⟩))) (h:At w0 X b o e) [hf:yJ X L R] (hv:e[f]?=some v) (hn:gG d=true) (heff:eff.contains i=false) (hw:kI ops g gd=some true) (hd:dst.all (·<n)=true)
  (hk:xC P n w0 ops eff ((i,t,⟨b,o+f,none⟩,v)::W) (listed.setIfInBounds i true) s Q (wR g dst v) L):xC P n w0 ops eff W listed (i::s) Q g L:=yQ hi' heff hw hd (yE hx) (zV hn h hv) hk
theorem W_atA {t:TypeId} {d:TypeDesc} [hu:Und P t d] {sz by':Nat} {z:Value} [hi:Inf P t sz by' z] {x:Operand} {X R:Hp} {b o:Nat} {e:List Value} (hi':ops[i]?=some ⟨dst,.load t x,ty,pos,af,gd⟩)
  (hx:ev g x=some (.pointer (some ⟨b,o,none⟩))) (h:At w0 X b o e) [hf:yJ X L R] (hl:(e.length==sz)=true) (hn:gG d=false) (heff:eff.contains i=false) (hw:kI ops g gd=some true) (hd:dst.all (·<n)=true)
  (hk:xC P n w0 ops eff ((i,t,⟨b,o,none⟩,.agg e.toArray)::W) (listed.setIfInBounds i true) s Q (wR g dst (.agg e.toArray)) L):xC P n w0 ops eff W listed (i::s) Q g L:=yQ hi' heff hw hd (yE hx) (zH hn h hl) hk
end
section
variable {P:Program} {n:Nat} {w0:World} {Q:uH} {g:Env} {L:Hp} {ops:Array Oper} {rest:List Oper} {dst:Option Nat} {op:Op} {ty:TypeId} {pos:String} {af:Array Edge} {gd:Option (Nat × Bool)}
theorem uV (hw:kI ops g gd=some true) (hd:dst.all (·<n)=true) {k:FuncId} {args:List Value} (h:CV P g op k args) {X R:Hp} {p:Prop} [Decidable p]
  (hs:yO P w0 k args X (fun r h'=>r=.bool (decide p)∧X=h')) [hL:yJ X L R] (ht:p→yW P n w0 ops rest Q (wR g dst (.bool true)) (X+R)) (hf:¬ p→yW P n w0 ops rest Q (wR g dst (.bool false)) (X+R)) :
  yW P n w0 ops (⟨dst,op,ty,pos,af,gd⟩::rest) Q g L:=zX hw hd h hs (by
   rintro _ _ ⟨rfl,rfl⟩
   by_cases hp:p
   ·rw [decide_eq_true hp]; exact ht hp
   ·rw [decide_eq_false hp]; exact hf hp)
theorem L_callV (hw:kI ops g gd=some true) (hd:dst.all (·<n)=true) {k:FuncId} {args:List Value} (h:CV P g op k args) {X R:Hp} {v:Value}
  (hs:yO P w0 k args X (fun r h'=>r=v∧X=h')) [hL:yJ X L R] (ht:yW P n w0 ops rest Q (wR g dst v) (X+R)) :
  yW P n w0 ops (⟨dst,op,ty,pos,af,gd⟩::rest) Q g L:=zX hw hd h hs (by rintro _ _ ⟨rfl,rfl⟩; exact ht)
theorem uU {c:Operand} {x y:Code} {p:Prop} [Decidable p] (hc:ev g c=some (.bool (decide p))) (ht:p→xY P n w0 x Q g L) (hf:¬ p→xY P n w0 y Q g L):xY P n w0 (.cond c x y) Q g L :=
 gS hc (fun e=>ht (of_decide_eq_true e)) (fun e=>hf (of_decide_eq_false e))
end
def countQ (N:Nat) (J:Nat→Env→Hp→Prop) (k:Nat) (Q:uH):uH
 | .normal,g,L=>k<N∧∃ g',Sub g g'∧J (k+1) g' L
 | e,g,L=>Q e g L
instance (N:Nat) (J:Nat→Env→Hp→Prop) (k:Nat) (Q:uH) [h:NP Q]:NP (countQ N J k Q):=⟨h.out⟩
def HoldR (P:Program) (n:Nat) (w0:World) (c:Code) (Q:uH) (g:Env) (L:Hp):Prop :=
 ∀ a w,Fits n a g→St w0 w L→∀ b k cs,∃ e a' w',lift n w0 Q e a' w'∧Arrives P (lone (b.at a (.code c::.inLoop c::k)) cs w) b k cs e a' w'
def onceQ (P:Program) (n:Nat) (w0:World) (c:Code) (Q:uH):uH
 | .normal,g,L=>HoldR P n w0 c Q g L
 | e,g,L=>Q e g L
instance (P:Program) (n:Nat) (w0:World) (c:Code) (Q:uH) [h:NP Q]:NP (onceQ P n w0 c Q):=⟨h.out⟩
section
variable {P:Program} {n:Nat} {w0:World} {Q:uH} {g:Env} {L:Hp}
theorem yN {c:Code} (N:Nat) (J:Nat→Env→Hp→Prop) (g':Env) (h0:J 0 g' L) (hs:Sub g g') (round:∀ k g L,k≤N→J k g L→xY P n w0 c (countQ N J k Q) g L):xY P n w0 (.loop c) Q g L :=
 gR (fun m g L=>m≤N∧J (N - m) g L) N g' ⟨Nat.le_refl _,by rw [Nat.sub_self]; exact h0⟩ hs fun m g L ⟨hm,hJ⟩=>by
  refine hold_mono ?_ (round (N - m) g L (by omega) hJ)
  intro e g2 L2 hq
  cases e with
  | normal =>
   obtain ⟨hlt,g3,hsub,hj⟩:=hq
   exact ⟨m - 1,g3,by omega,hsub,by omega,by rw [show N - (m - 1)=N - m+1 by omega]; exact hj⟩
  | _=>exact hq
theorem hold_loop_of {c:Code} (h:HoldR P n w0 c Q g L):xY P n w0 (.loop c) Q g L:=by
 intro a w ha hw b k cs
 obtain ⟨e,a2,w2,hq,harr⟩:=h a w ha hw b k cs
 exact ⟨e,a2,w2,hq,.of_steps (.one step_loop) harr⟩
theorem holdR {c:Code} (h:xY P n w0 c (onceQ P n w0 c Q) g L):HoldR P n w0 c Q g L:=by
 intro a w ha hw b k cs
 obtain ⟨e,a1,w1,⟨g1,L1,hq,ha1,hw1⟩,harr⟩:=h a w ha hw b (.inLoop c::k) cs
 cases e with
 | normal =>
  obtain ⟨e2,a2,w2,hq2,harr2⟩:=hq a1 w1 ha1 hw1 b k cs
  exact ⟨e2,a2,w2,hq2,.of_steps (Steps.trans harr (.one step_inLoop)) harr2⟩
 | exit id=>exact ⟨_,a1,w1,⟨g1,L1,hq,ha1,hw1⟩,.pass (x:=.inLoop c) M (fun _ _=>.inl (by simp)) harr⟩
 | goto l=>exact ⟨_,a1,w1,⟨g1,L1,hq,ha1,hw1⟩,.pass (x:=.inLoop c) M (fun _ _=>.inl (by simp)) harr⟩
 | ret=>exact ⟨_,a1,w1,⟨g1,L1,hq,ha1,hw1⟩,.pass (x:=.inLoop c) M (fun _ _=>.inl (by simp)) harr⟩
 | panic ch=>exact ⟨_,a1,w1,⟨g1,L1,hq,ha1,hw1⟩,.pass (x:=.inLoop c) M (fun _ _=>.inl (by simp)) harr⟩
 | outgrown=>exact ⟨_,a1,w1,⟨g1,L1,hq,ha1,hw1⟩,.pass (x:=.inLoop c) M (fun _ _=>.inl (by simp)) harr⟩
end
theorem zka {P:Program} {w0:World} {L:Hp} {W:kK} (h:uX P w0 L W:=by repeat (first|exact trivial|exact zG M (zS M)|exact zL M M M|exact loads_at M (by assumption) M|exact zV M (by assumption) M|exact zH M (by assumption) M|exact zH M (by assumption) (by assumption)|refine ⟨?_,?_⟩)):uX P w0 L W:=h
theorem zsb {g g':Env} (h:Sub g g':=by repeat (first|exact zT _|refine zO M ?_)):Sub g g':=h
/-- A goal that is still open,kept out of the way of assumption. -/
structure Zh (p:Prop):Prop where
 o:p
section
variable {P:Program} {g:Env} {t ty:TypeId} {x y:Operand}
theorem pv_or {k:IntKind} {i j:Int} (hx:ev g x=some (.int k i)) (hy:ev g y=some (.int k j)):PV P g (.binOp .or t x y ty) (.int k (k.wrap (BitVec.ofInt k.bits i ||| BitVec.ofInt k.bits j).toNat)):=by
 intro o a w n ho ha
 unfold execOp
 simp only [ho,ha.ev hx,ha.ev hy,Sem.run_bind,jQ,Result.andThen_ok]
 simp [binOp,Op.intBits]
theorem pv_shr {k k2:IntKind} {i j:Int} (hx:ev g x=some (.int k i)) (hy:ev g y=some (.int k2 j)) (h0:0≤j):PV P g (.binOp .shr t x y ty) (.int k (i.fdiv (2 ^ (min j.toNat k.bits)))):=by
 intro o a w n ho ha
 have hn:¬ j<0:=by omega
 unfold execOp
 simp only [ho,ha.ev hx,ha.ev hy,eqGuard,binOp,Op.shift,hn,if_false]
 simp
theorem bD {s d:TypeId} {k k2:IntKind} {n:Int} {ds:TypeDesc} [hs:Und P s ds] [hd:Und P d (.int k)] (hx:ev g x=some (.int k2 n)):PV P g (.convert s d x) (.int k (k.wrap n)):=by
 intro o a w m ho ha
 unfold execOp
 simp only [ho,ha.ev hx,convert,Sem.run_bind,run_underlying hs.out,run_underlying hd.out,Result.andThen_ok,Conv.intToInt,Sem.run_pure]
theorem pv_conv_in {s d:TypeId} {k2:IntKind} {n:Int} {ds:TypeDesc} [hs:Und P s ds] [hd:Und P d (.int .i64)] (hx:ev g x=some (.int k2 n)) (h0:-9223372036854775808≤n) (h1:n≤9223372036854775807):PV P g (.convert s d x) (.int .i64 n):=by
 have:=bD (P:=P) (s:=s) (d:=d) (k:=.i64) hx
 rwa [qK n h0 h1] at this
theorem kV {s d:TypeId} {k k2:IntKind} {n m:Int} {ds:TypeDesc} [hs:Und P s ds] [hd:Und P d (.int k)] (hx:ev g x=some (.int k2 n)) (h:k.wrap n=m):PV P g (.convert s d x) (.int k m):=by
 subst h; exact bD hx
theorem u64_wrap (n:Int):IntKind.u64.wrap n=n % 18446744073709551616:=by
 simp only [IntKind.wrap,IntKind.signed,IntKind.bits]
 simp
theorem u64_in {n:Int} (h0:0≤n) (h1:n<18446744073709551616):IntKind.u64.wrap n=n:=by rw [u64_wrap]; omega
theorem u8_wrap (n:Int):IntKind.u8.wrap n=n % 256:=by
 simp only [IntKind.wrap,IntKind.signed,IntKind.bits]
 simp
theorem pv_shr1 {k2:IntKind} {n:Nat} (hx:ev g x=some (.int .u64 (n:Int))) (hy:ev g y=some (.int k2 1)):PV P g (.binOp .shr t x y ty) (.int .u64 ((n / 2:Nat):Int)):=by
 have:=pv_shr (P:=P) (t:=t) (ty:=ty) hx hy (by decide)
 have e:((n:Int).fdiv (2 ^ (min (1:Int).toNat IntKind.u64.bits)))=((n / 2:Nat):Int):=by
  show (n:Int).fdiv 2=_
  rw [Int.fdiv_eq_ediv_of_nonneg _ (by omega)]; omega
 rwa [e] at this
end
section
variable {α:Type}
def BsAt (p:α→Bool) (xs:List α) (i:Nat):Prop:=i≤xs.length∧(∀ h:0<i∧i - 1<xs.length,p xs[i - 1]=true)∧(∀ h:i<xs.length,p xs[i]=false)
def dT (c:α→Int) (xs:List α) (i:Nat):Bool:=if h:i<xs.length then decide (c xs[i]=0) else false
end
theorem splice_app :∀ (a b:List Value),b.length=a.length→∀ (c pre:List Value),vD pre.length b (pre++(a++c))=pre++(b++c)
 | [],b,h,c,pre=>by
  have:b=[]:=List.eq_nil_of_length_eq_zero h
  subst this; rw [dV]
 | x::a,[],h,c,pre=>by simp at h
 | x::a,y::b,h,c,pre=>by
  rw [splice_set,List.set_append_right _ _ (Nat.le_refl _),Nat.sub_self,List.cons_append,List.set_cons_zero]
  have:=splice_app a b (by simpa using h) c (pre++[y])
  simp only [List.length_append,List.length_singleton,List.append_assoc,List.singleton_append] at this
  rw [this]; rfl
theorem ev_clearZ {P:Program} {w0:World} {L:Hp} {g:Env} {t e:TypeId} [hu:Und P t (.slice e)] {sz by':Nat} {z:Value} [hi:Inf P e sz by' z] {x:Operand} {b off m cap:Nat} {c:List Value} {R:Hp}
  (hx:ev g x=some (.slice (some ⟨b,off,none⟩) m cap)) [hf:HasPt b L (.cells c.toArray e (0,0)) R] (hz:(z.cells.size==sz)=true) (h1:z.cells.toList.all (·.oneCell')=true) (hc:off+m*sz≤c.length) :
  EV P w0 L g (.call { callee:=.builtin .clear,args:=#[x],argTypes:=#[t] }) fun u L'=>∃ zs:List Value,zs.length=m*sz∧L'=pt b (.cells (vD off zs c).toArray e (0,0))+R:=by
 have:=ev_clear (P:=P) (w0:=w0) (L:=L) (g:=g) (t:=t) hx hz h1 hc
 intro o a w n ho ha hst
 obtain ⟨u,w',L',hr,rfl,hst'⟩:=this o a w n ho ha hst
 exact ⟨u,w',_,hr,⟨_,by simp only [List.length_flatten,List.map_replicate,List.sum_replicate_nat,Array.length_toList]; rw [show z.cells.size=sz by simpa using hz],rfl⟩,hst'⟩
theorem splice_row {fs rs:List (List Value)} {r0 e spare:List Value} {size:Nat} (hf:∀ x∈fs,x.length=size) (h0:r0.length=size) (he:e.length=size) :
  vD (0+fs.length*size) e ((fs++r0::rs).flatten++spare)=(fs++[e]++rs).flatten++spare:=by
 have:=splice_app r0 e (by omega) (rs.flatten++spare) fs.flatten
 rw [jL hf] at this
 simpa [Nat.zero_add] using this
def endQ (p:Env→Hp→Prop):uH
 | .normal,g,L=>p g L
 | _,_,_=>False
instance (p:Env→Hp→Prop):NP (endQ p):=⟨fun _ _ _ h=>h⟩
theorem jP {P:Program} {n:Nat} {w0:World} {c:Code} {Q:uH} {g:Env} {L:Hp} (p:Env→Hp→Prop) (h1:xY P n w0 c (endQ p) g L) (h2:∀ g' L',p g' L'→Q .normal g' L'):xY P n w0 c Q g L :=
 hold_mono (fun e g' L' h=>by cases e<;>first|exact h2 _ _ h|cases h) h1
section
variable {α:Type}
theorem bs_lo {key:α→Int} {xs:List α} {t:Int} {i:Nat} (hs:xs.Pairwise fun a b=>key a<key b) (hb:BsAt (fun x=>decide (key x - t<0)) xs i):∀ x∈xs.take i,key x<t:=by
 intro x hx
 obtain ⟨j,hj,rfl⟩:=List.getElem_of_mem hx
 rw [List.length_take] at hj
 have h1:=hb.2.1 ⟨by omega,by have:=hb.1; omega⟩
 have h1:key (xs[i - 1]'(by have:=hb.1; omega))<t:=by have:=of_decide_eq_true h1; omega
 rw [List.getElem_take]
 rcases Nat.lt_or_ge j (i - 1) with h|h
 ·have:=(List.pairwise_iff_getElem.1 hs) j (i - 1) (by omega) (by have:=hb.1; omega) h
  omega
 ·have e:j=i - 1:=by omega
  subst e; exact h1
theorem bs_hi {key:α→Int} {xs:List α} {t:Int} {i:Nat} (hs:xs.Pairwise fun a b=>key a<key b) (hb:BsAt (fun x=>decide (key x - t<0)) xs i):∀ x∈xs.drop i,t≤key x:=by
 intro x hx
 obtain ⟨j,hj,rfl⟩:=List.getElem_of_mem hx
 rw [List.length_drop] at hj
 have h1:¬ key (xs[i]'(by omega)) - t<0:=of_decide_eq_false (hb.2.2 (by omega))
 rw [List.getElem_drop]
 rcases Nat.eq_zero_or_pos j with h|h
 ·subst h; simp only [Nat.add_zero]; omega
 ·have:=(List.pairwise_iff_getElem.1 hs) i (i+j) (by omega) (by omega) (by omega)
  omega
theorem filter_lo {p:α→Bool} {a b:List α} (ha:∀ x∈a,p x=true) (hb:∀ x∈b,p x=false):(a++b).filter p=a:=by
 rw [List.filter_append,List.filter_eq_self.2 ha,List.filter_eq_nil_iff.2 (fun x hx=>by rw [hb x hx]; simp),List.append_nil]
theorem filter_hi {p:α→Bool} {a b:List α} (ha:∀ x∈a,p x=false) (hb:∀ x∈b,p x=true):(a++b).filter p=b:=by
 rw [List.filter_append,List.filter_eq_self.2 hb,List.filter_eq_nil_iff.2 (fun x hx=>by rw [ha x hx]; simp),List.nil_append]
theorem bs_found {key:α→Int} {xs:List α} {t:Int} {i:Nat} (hs:xs.Pairwise fun a b=>key a<key b) (hb:BsAt (fun x=>decide (key x - t<0)) xs i) (hf:dT (fun x=>key x - t) xs i=true) :
  ∃ h:i<xs.length,key xs[i]=t∧xs.take i=xs.filter (fun x=>decide (key x<t))∧xs.drop (i+1)=xs.filter (fun x=>decide (t<key x))∧xs.find? (fun x=>decide (key x=t))=some xs[i]:=by
 unfold dT at hf
 split at hf
 ·rename_i hi
  have hk:key xs[i]=t:=by have:key xs[i] - t=0:=of_decide_eq_true hf; omega
  have lo:=bs_lo hs hb
  have hd:xs.drop i=xs[i]::xs.drop (i+1):=List.drop_eq_getElem_cons hi
  have hi2:∀ x∈xs.drop (i+1),t<key x:=by
   intro x hx
   obtain ⟨j,hj,rfl⟩:=List.getElem_of_mem hx
   rw [List.length_drop] at hj
   rw [List.getElem_drop]
   have:=(List.pairwise_iff_getElem.1 hs) i (i+1+j) hi (by omega) (by omega)
   omega
  have hall:xs=xs.take i++xs[i]::xs.drop (i+1):=by rw [← hd,List.take_append_drop]
  refine ⟨hi,hk,?_,?_,?_⟩
  ·conv=>rhs; rw [← List.take_append_drop i xs]
   exact (filter_lo (fun x hx=>decide_eq_true (lo x hx)) (fun x hx=>decide_eq_false (by have:=bs_hi hs hb x hx; omega))).symm
  ·conv=>rhs; rw [← List.take_append_drop (i+1) xs]
   refine (filter_hi (fun x hx=>decide_eq_false ?_) (fun x hx=>decide_eq_true (hi2 x hx))).symm
   rw [List.take_succ_eq_append_getElem hi,List.mem_append,List.mem_singleton] at hx
   rcases hx with hx|rfl
   ·have:=lo x hx; omega
   ·omega
  ·have key2:(xs.take i++xs[i]::xs.drop (i+1)).find? (fun x=>decide (key x=t))=some xs[i]:=by
    rw [List.find?_append,List.find?_eq_none.2 (fun x hx=>by have:=lo x hx; simp; omega),Option.none_or,List.find?_cons_of_pos (by simp [hk])]
   rw [← hall] at key2
   exact key2
 ·cases hf
theorem bs_missed {key:α→Int} {xs:List α} {t:Int} {i:Nat} (hs:xs.Pairwise fun a b=>key a<key b) (hb:BsAt (fun x=>decide (key x - t<0)) xs i) (hf:dT (fun x=>key x - t) xs i=false) :
  xs.take i=xs.filter (fun x=>decide (key x<t))∧xs.drop i=xs.filter (fun x=>decide (t<key x))∧xs.find? (fun x=>decide (key x=t))=none:=by
 have lo:=bs_lo hs hb
 have hi2:∀ x∈xs.drop i,t<key x:=by
  intro x hx
  have h1:=bs_hi hs hb x hx
  obtain ⟨j,hj,rfl⟩:=List.getElem_of_mem hx
  rw [List.length_drop] at hj
  rw [List.getElem_drop] at h1 ⊢
  have hi:i<xs.length:=by omega
  have h2:=bs_hi hs hb xs[i] (by rw [List.drop_eq_getElem_cons hi]; exact List.mem_cons_self)
  have h3:key xs[i]≠t:=by
   intro e
   unfold dT at hf
   rw [dif_pos hi,decide_eq_true (show (fun x=>key x - t) xs[i]=0 by show key xs[i] - t=0; omega)] at hf
   cases hf
  rcases Nat.eq_zero_or_pos j with h|h
  ·subst h; simp only [Nat.add_zero] at h1 ⊢; omega
  ·have:=(List.pairwise_iff_getElem.1 hs) i (i+j) hi (by omega) (by omega)
   omega
 refine ⟨?_,?_,?_⟩
 ·conv=>rhs; rw [← List.take_append_drop i xs]
  exact (filter_lo (fun x hx=>decide_eq_true (lo x hx)) (fun x hx=>decide_eq_false (by have:=hi2 x hx; omega))).symm
 ·conv=>rhs; rw [← List.take_append_drop i xs]
  exact (filter_hi (fun x hx=>decide_eq_false (by have:=lo x hx; omega)) (fun x hx=>decide_eq_true (hi2 x hx))).symm
 ·rw [← List.take_append_drop i xs]
  exact List.find?_eq_none.2 (fun x hx=>by
   rcases List.mem_append.1 hx with h|h
   ·have:=lo x h; simp; omega
   ·have:=hi2 x h; simp; omega)
end
theorem set_row1_get {fs rs:List (List Value)} {r0 spare:List Value} (hf:∀ x∈fs,x.length=1) (h0:r0.length=1):((fs++r0::rs).flatten++spare)[0+fs.length*1]?=some (r0.getD 0 undef):=by
 match r0,h0 with
 | [u],_ =>
  have:=jL hf
  rw [List.flatten_append,List.append_assoc,List.getElem?_append_right (by omega),this,Nat.zero_add,Nat.sub_self]
  rfl
theorem set_row1 {fs rs:List (List Value)} {r0 spare:List Value} {u:Value} (hf:∀ x∈fs,x.length=1) (h0:r0.length=1):((fs++r0::rs).flatten++spare).set (0+fs.length*1) u=(fs++[[u]]++rs).flatten++spare:=by
 match r0,h0 with
 | [x],_ =>
  have:=jL hf
  rw [List.flatten_append,List.append_assoc,List.set_append_right _ _ (by omega),this,Nat.zero_add,Nat.sub_self]
  simp
def or64 (a b:Int):Int:=IntKind.i64.wrap (BitVec.ofInt IntKind.i64.bits a ||| BitVec.ofInt IntKind.i64.bits b).toNat
theorem L_or64 {P:Program} {n:Nat} {w0:World} {Q:uH} {g:Env} {L:Hp} {ops:Array Oper} {rest:List Oper} {dst:Option Nat} {ty:TypeId} {pos:String} {af:Array Edge} {gd:Option (Nat × Bool)} {t tb:TypeId} {x y:Operand} {a b:Int}
  (hx:ev g x=some (.int .i64 a)) (hy:ev g y=some (.int .i64 b)) (hw:kI ops g gd=some true) (hd:dst.all (·<n)=true) (hk:yW P n w0 ops rest Q (wR g dst (.int .i64 (or64 a b))) L) :
  yW P n w0 ops (⟨dst,.binOp .or t x y tb,ty,pos,af,gd⟩::rest) Q g L:=yG hw hd (pv_or hx hy) hk
set_option maxHeartbeats 4000000
set_option maxRecDepth 4000
attribute [local irreducible] xY yW xC
theorem yO.mono {P:Program} {w0:World} {f:FuncId} {args:List Value} {pre:Hp} {post post':Value→Hp→Prop} (h:yO P w0 f args pre post) (hp:∀ r h,post r h→post' r h):yO P w0 f args pre post' :=
 fun w fr hw=>(h w fr hw).mono fun e w' ⟨v,k,h1,h2,h3⟩=>⟨v,k,h1,hp _ _ h2,h3⟩
theorem yO.into {P:Program} {w0:World} {f:FuncId} {args:List Value} {Y X R:Hp} {post post':Value→Hp→Prop} (h:yO P w0 f args Y post) (e:X=Y+R) (hp:∀ r h,post r h→post' r (h+R)):yO P w0 f args X post':=by
 subst e
 intro w fr hw
 rw [yZ] at hw
 refine (h w _ hw).mono ?_
 rintro e w' ⟨v,k,h1,h2,h3⟩
 exact ⟨v,k+R,h1,hp _ _ h2,by rw [yZ]; exact h3⟩
abbrev Bt :=Fin 256
def cellB (x:Bt):List Value:=[.int .u8 (x.val:Int)]
instance repB :Rep Bt where
 tid:=5
 size:=1
 rd:=fun _ _ x e=>e=cellB x
 len:=by rintro _ _ _ _ rfl; rfl
 one:=by rintro _ _ _ _ rfl u hu; simp [cellB] at hu; subst hu; rfl
 mono:=fun _ h=>h
instance repI :Rep Int where
 tid:=3
 size:=1
 rd:=fun _ _ x e=>e=[.int .i64 x]
 len:=by rintro _ _ _ _ rfl; rfl
 one:=by rintro _ _ _ _ rfl u hu; simp at hu; subst hu; rfl
 mono:=fun _ h=>h
theorem rdI_enc {w0:World} {L:Hp} {xs:List Int} {es:List (List Value)}:kU (Rep.rd w0 L) xs es↔es=bN xs:=kU.enc (fun _ _=>Iff.rfl)
theorem dS {w0:World} {L:Hp} {xs:List Bt} {es:List (List Value)}:kU (Rep.rd w0 L) xs es↔es=xs.map cellB:=kU.enc (fun _ _=>Iff.rfl)
theorem rdL_ints {w0:World} {L:Hp} {v:Value} {xs:List Int}:RdL w0 L v xs↔uA w0 L 1 v (bN xs):=⟨fun ⟨es,h1,h2⟩=>by rw [rdI_enc] at h2; subst h2; exact h1,fun h=>⟨_,h,rdI_enc.2 M⟩⟩
theorem gF {w0:World} {X h:Hp} {v:Value} {xs:List Int}:OwL w0 X xs v h↔gH 3 1 (bN xs) v h:=⟨fun ⟨es,h1,h2⟩=>by rw [rdI_enc] at h2; subst h2; exact h1,fun h=>⟨_,h,rdI_enc.2 M⟩⟩
theorem OwL.plainB {w0:World} {X Y h:Hp} {v:Value} {xs:List Bt} (H:OwL w0 X xs v h):OwL w0 Y xs v h:=let ⟨es,h1,h2⟩:=H; ⟨es,h1,dS.2 (dS.1 h2)⟩
structure Wr where
 block:Int
 data:List Bt
deriving DecidableEq
instance repWr :Rep Wr where
 tid:=44
 size:=2
 rd:=fun w0 L x e=>∃ a c,e=[.int .i64 x.block,.slice a x.data.length c]∧RdL w0 L (.slice a x.data.length c) x.data
 len:=by rintro _ _ _ _ ⟨a,c,rfl,_⟩; rfl
 one:=by
  rintro _ _ _ _ ⟨a,c,rfl,h⟩ u hu
  simp only [List.mem_cons,List.not_mem_nil,or_false] at hu
  rcases hu with rfl|rfl<;>rfl
 mono:=by rintro _ _ _ _ _ _ e ⟨a,c,rfl,h⟩; exact ⟨a,c,rfl,h.mono e⟩
section
variable {α:Type}
def qG (p:α→Bool):List α→Int
 | []=>-1
 | x::xs=>if p x=true then 0 else if qG p xs<0 then -1 else qG p xs+1
theorem uF (p:α→Bool):∀ (xs:List α),(qG p xs=-1∧∀ x∈xs,p x=false)∨∃ (k:Nat) (h:k<xs.length),qG p xs=k∧p xs[k]=true∧∀ x∈xs.take k,p x=false
 | []=>.inl ⟨rfl,by simp⟩
 | x::xs=>by
  by_cases hx:p x=true
  ·exact .inr ⟨0,by simp,by simp [qG,hx],by simpa using hx,by simp⟩
  ·have hx':p x=false:=by simpa using hx
   rcases uF p xs with ⟨h1,h2⟩|⟨k,hk,h1,h2,h3⟩
   ·exact .inl ⟨by simp [qG,hx',h1],by simpa [hx'] using h2⟩
   ·refine .inr ⟨k+1,by simpa using hk,by simp only [qG,hx',h1]; rw [if_neg (by simp),if_neg (by omega)]; omega,by simpa using h2,?_⟩
    simpa [List.take_succ_cons,hx'] using h3
theorem dM {p:α→Bool}:∀ {xs:List α} {k:Nat} (hx:k<xs.length),p xs[k]=true→(∀ x∈xs.take k,p x=false)→qG p xs=k
 | x::xs,0,_,h,_=>by simp only [List.getElem_cons_zero] at h; simp [qG,h]
 | x::xs,k+1,hx,h,hp=>by
  have h0:p x=false:=hp x (by simp)
  have:=dM (p:=p) (xs:=xs) (k:=k) (by simpa using hx) (by simpa using h) (fun y hy=>hp y (by simp [hy]))
  simp only [qG,h0,this]
  rw [if_neg (by simp),if_neg (by omega)]; omega
theorem qV {p:α→Bool}:∀ {xs:List α},(∀ x∈xs,p x=false)→qG p xs=-1
 | [],_=>rfl
 | x::xs,h=>by simp [qG,h x (by simp),qV (p:=p) (xs:=xs) (fun y hy=>h y (by simp [hy]))]
theorem gI (p:α→Bool) (xs:List α):decide (0≤qG p xs)=xs.any p:=by
 rcases uF p xs with ⟨h1,h2⟩|⟨k,hk,h1,h2,h3⟩
 ·rw [h1,List.any_eq_false.2 (fun x hx=>by simp [h2 x hx])]; rfl
 ·rw [h1,List.any_eq_true.2 ⟨_,List.getElem_mem hk,h2⟩,decide_eq_true (by omega)]
theorem vG {p:α→Bool} {xs:List α} {k:Nat} (hx:k<xs.length) (h:∀ x∈xs.take k,p x=false) (h3:p xs[k]=false):∀ x∈xs.take (k+1),p x=false:=by
 intro x hm
 rw [List.take_succ_eq_append_getElem hx,List.mem_append,List.mem_singleton] at hm
 rcases hm with hm|rfl
 ·exact h x hm
 ·exact h3
end
theorem splice_append :∀ (a b:List Value),b.length=a.length→∀ (c pre:List Value),vD pre.length b (pre++(a++c))=pre++(b++c)
 | [],b,h,c,pre=>by
  have:b=[]:=List.eq_nil_of_length_eq_zero h
  subst this; rw [dV]
 | x::a,[],h,c,pre=>by simp at h
 | x::a,y::b,h,c,pre=>by
  rw [splice_set,List.set_append_right _ _ (Nat.le_refl _),Nat.sub_self,List.cons_append,List.set_cons_zero]
  have:=splice_append a b (by simpa using h) c (pre++[y])
  simp only [List.length_append,List.length_singleton,List.append_assoc,List.singleton_append] at this
  rw [this]; rfl
theorem copy_at {A D E F:List Value} {o m:Nat} (hA:A.length=o) (hm:D.length=m):(A++D++E).take o++F++(A++D++E).drop (o+m)=A++F++E:=by
 subst hA; subst hm
 have e1:(A++D++E).take A.length=A:=by rw [List.append_assoc,List.take_left]
 have e2:(A++D++E).drop (A.length+D.length)=E:=by rw [← List.length_append,List.drop_left]
 rw [e1,e2]
theorem zaJ {G G' : Prop} (h : G') (f : Zh G'→G:=by intro h; (repeat (first|refine zB ?_|refine zE ?_|refine zK M M M ?_|refine zP ?_|refine zI M ?_|refine yU M M (by omega) (by omega) M M ?_)); exact h.o) : G:=f ⟨h⟩
theorem zaK {G G' : Prop} (h : G') (f : Zh G'→G:=by intro h; (repeat (first|refine zF ?_|refine yC ?_|refine zB ?_|refine zE ?_|refine zK M M M ?_|refine zM ?_|refine zI M ?_)); exact h.o) : G:=f ⟨h⟩
theorem zaH {G G' : Prop} (h : G') (f : Zh G'→G:=by intro h; (repeat (first|refine zF ?_|refine zB ?_)); exact h.o) : G:=f ⟨h⟩
theorem zaB {G G' : Prop} (h : G') (f : Zh G'→G:=by intro h; (repeat (first|refine zF ?_|refine zB ?_|refine zE ?_|refine zK M M M ?_|refine zM ?_|refine zJ M ?_)); exact h.o) : G:=f ⟨h⟩
theorem zaS {G G' : Prop} (h : G') (f : Zh G'→G:=by intro h; (repeat (first|refine zF ?_|refine zR ?_|refine zB ?_|refine zE ?_|refine zK M M M ?_|refine yT M M M ?_)); exact h.o) : G:=f ⟨h⟩
theorem zcA {G G' : Prop} (h : G') (f : Zh G'→G:=by intro h; (repeat (first|refine zF ?_|refine zR ?_|refine zB ?_|refine zE ?_|refine zK M M M ?_|refine zP ?_|refine zJ M ?_|refine kC M M (by omega) M M ?_)); exact h.o) : G:=f ⟨h⟩
theorem indexFuncWr_spec (w0:World) (X:Hp) (v:Value) (xs:List Wr) (k0:Nat) [hf:Fun Tryz.prog k0] (caps:List Value) (p:Wr→Bool) (hv:RdL w0 X v xs) (hl:xs.length≤1000000000)
  (hp:∀ Y x e,x∈xs→Rep.rd w0 Y x e→yO Tryz.prog w0 k0 (.agg e.toArray::caps) X (fun r h'=>r=.bool (p x)∧X=h')) :
  yO Tryz.prog w0 140 [v,.func (.func k0) #[] caps.toArray] X (fun r h'=>r=.int .i64 (qG p xs)∧X=h'):=by
 obtain ⟨a,c,rfl⟩:=hv.shape
 refine zN Tryz.func140 M Tryz.ntmps140 Tryz.results140 M fun fr=>?_
 refine zaS ?_
 refine yN xs.length (fun k g L=>∃ R:Hp,g=[(0,.slice a xs.length c),(1,.func (.func k0) #[] caps.toArray),(7,.int .i64 xs.length),(8,.int .i64 k)]∧L=X+fr+R∧∀ x∈xs.take k,p x=false) _ ⟨0,rfl,(yA _).symm,by simp⟩ zsb ?_
 rintro k g L hk ⟨R,rfl,rfl,hpre⟩
 refine zaH ?_
 refine yF M M (yS M M) (fun h2=>?_) (fun h2=>?_)
 ·have hx:k<xs.length:=by omega
  obtain ⟨b2,o2,rfl,e,hr,hat⟩:=hv.at hx
  refine zcA ?_
  refine dJ M M (yE M) (zH M hat (beq_iff_eq.2 (Rep.len hr))) ?_
  refine zX M M (zQ M M (by simp<;>rfl)) (hp X xs[k] e (List.getElem_mem hx) hr) ?_
  rintro _ _ ⟨rfl,rfl⟩
  cases h3:p xs[k]
  ·refine zaJ ?_
   exact ⟨hx,_,zsb,_,rfl,yJ.out,vG hx hpre h3⟩
  ·refine zaB ?_
   exact ⟨[_],X,_,⟨rfl,trivial⟩,⟨by rw [dM hx h3 hpre]; rfl,rfl⟩,yJ.out⟩
 ·refine zaK ?_
  rw [List.take_of_length_le (by omega)] at hpre
  exact ⟨[_],X,_,⟨rfl,trivial⟩,⟨by rw [qV hpre]; rfl,rfl⟩,yJ.out⟩
theorem zaE {G G' : Prop} (h : G') (f : Zh G'→G:=by intro h; (repeat (first|refine zE ?_|refine zK M M M ?_|refine zM ?_)); exact h.o) : G:=f ⟨h⟩
theorem zaC {G G' : Prop} (h : G') (f : Zh G'→G:=by intro h; (repeat (first|refine zF ?_|refine zB ?_|refine zE ?_|refine zK M M M ?_)); exact h.o) : G:=f ⟨h⟩
theorem cloneBB_spec (w0:World) (X:Hp) (v:Value) (xs:List Bt) (hv:RdL w0 X v xs) (hl:xs.length≤1000000000000) :
  yO Tryz.prog w0 145 [v] X (fun r h'=>∃ h,OwL w0 X xs r h∧X+h=h'):=by
 obtain ⟨es,h1,h2⟩:=id hv
 obtain ⟨a,c,rfl⟩:=hv.shape
 refine zN Tryz.func145 M Tryz.ntmps145 Tryz.results145 M fun fr=>?_
 refine zaC ?_
 refine L_bool M M (qD M M) (fun h3=>?_) (fun h3=>?_)
 ·obtain rfl:xs=[]:=by
   cases xs with
   | nil=>rfl
   | cons x l =>
    obtain ⟨b,o,rfl,_⟩:=hv.at (i:=0) (by simp)
    simp at h3
  refine zaB ?_
  exact ⟨[_],X,_,⟨rfl,trivial⟩,⟨0,OwL.nil _ none,yA _⟩,yJ.out⟩
 ·repeat (first|refine zF ?_|refine zB ?_|refine zE ?_|refine zK M M M ?_|refine zP ?_|refine zI M ?_|refine vM (vs:=[]) (cells:=[]) M M M M M M (fun _=>?_))
  refine kF M M (xR (xs:=([]:List Bt)) (h:=0) M M (OwL.nil X _) (h1.frame) h2 M M M M M (by simp; omega)) ?_
  rintro v' _ ⟨h',hr',rfl⟩
  refine zaE ?_
  exact ⟨[_],X+h',_,⟨rfl,trivial⟩,⟨h',hr',rfl⟩,yJ.out⟩
set_option synthInstance.maxHeartbeats 400000
set_option synthInstance.maxSize 100000
structure Bof where
 block:Int
 data:List Bt
deriving DecidableEq
instance repBof :Rep Bof where
 tid:=218
 size:=2
 rd:=fun w0 L x e=>∃ a c,e=[.int .i64 x.block,.slice a x.data.length c]∧RdL w0 L (.slice a x.data.length c) x.data
 len:=by rintro _ _ _ _ ⟨a,c,rfl,_⟩; rfl
 one:=by
  rintro _ _ _ _ ⟨a,c,rfl,h⟩ u hu
  simp only [List.mem_cons,List.not_mem_nil,or_false] at hu
  rcases hu with rfl|rfl<;>rfl
 mono:=by rintro _ _ _ _ _ _ e ⟨a,c,rfl,h⟩; exact ⟨a,c,rfl,h.mono e⟩
theorem indexFuncBof_spec (w0:World) (X:Hp) (v:Value) (xs:List Bof) (k0:Nat) [hf:Fun Tryz.prog k0] (caps:List Value) (p:Bof→Bool) (hv:RdL w0 X v xs) (hl:xs.length≤1000000000)
  (hp:∀ Y x e,x∈xs→Rep.rd w0 Y x e→yO Tryz.prog w0 k0 (.agg e.toArray::caps) X (fun r h'=>r=.bool (p x)∧X=h')) :
  yO Tryz.prog w0 142 [v,.func (.func k0) #[] caps.toArray] X (fun r h'=>r=.int .i64 (qG p xs)∧X=h'):=by
 obtain ⟨a,c,rfl⟩:=hv.shape
 refine zN Tryz.func142 M Tryz.ntmps142 Tryz.results142 M fun fr=>?_
 refine zaS ?_
 refine yN xs.length (fun k g L=>∃ R:Hp,g=[(0,.slice a xs.length c),(1,.func (.func k0) #[] caps.toArray),(7,.int .i64 xs.length),(8,.int .i64 k)]∧L=X+fr+R∧∀ x∈xs.take k,p x=false) _ ⟨0,rfl,(yA _).symm,by simp⟩ zsb ?_
 rintro k g L hk ⟨R,rfl,rfl,hpre⟩
 refine zaH ?_
 refine yF M M (yS M M) (fun h2=>?_) (fun h2=>?_)
 ·have hx:k<xs.length:=by omega
  obtain ⟨b2,o2,rfl,e,hr,hat⟩:=hv.at hx
  refine zcA ?_
  refine dJ M M (yE M) (zH M hat (beq_iff_eq.2 (Rep.len hr))) ?_
  refine zX M M (zQ M M (by simp<;>rfl)) (hp X xs[k] e (List.getElem_mem hx) hr) ?_
  rintro _ _ ⟨rfl,rfl⟩
  cases h3:p xs[k]
  ·refine zaJ ?_
   exact ⟨hx,_,zsb,_,rfl,yJ.out,vG hx hpre h3⟩
  ·refine zaB ?_
   exact ⟨[_],X,_,⟨rfl,trivial⟩,⟨by rw [dM hx h3 hpre]; rfl,rfl⟩,yJ.out⟩
 ·refine zaK ?_
  rw [List.take_of_length_le (by omega)] at hpre
  exact ⟨[_],X,_,⟨rfl,trivial⟩,⟨by rw [qV hpre]; rfl,rfl⟩,yJ.out⟩
theorem zaG {G G' : Prop} (h : G') (f : Zh G'→G:=by intro h; (repeat (first|refine zB ?_|refine zE ?_|refine zK M M M ?_|refine zI M ?_)); exact h.o) : G:=f ⟨h⟩
theorem zbJ {G G' : Prop} (h : G') (f : Zh G'→G:=by intro h; (repeat (first|refine zE ?_|refine zK M M M ?_|refine xE M M ?_|refine zM ?_)); exact h.o) : G:=f ⟨h⟩
theorem zbB {G G' : Prop} (h : G') (f : Zh G'→G:=by intro h; (repeat (first|refine zF ?_|refine yC ?_|refine zB ?_|refine zE ?_|refine zK M M M ?_|refine zI M ?_)); exact h.o) : G:=f ⟨h⟩
theorem zaV {G G' : Prop} (h : G') (f : Zh G'→G:=by intro h; (repeat (first|refine zF ?_|refine zB ?_|refine zK M M M ?_)); exact h.o) : G:=f ⟨h⟩
theorem binarySearchFuncWr_spec (w0:World) (X:Hp) (v tv:Value) (xs:List Wr) (k0:Nat) [hf:Fun Tryz.prog k0] (caps:List Value) (c:Wr→Int) (hv:RdL w0 X v xs) (hl:xs.length≤1000000000)
  (hp:∀ Y x e,x∈xs→Rep.rd w0 Y x e→yO Tryz.prog w0 k0 (.agg e.toArray::tv::caps) X (fun r h'=>r=.int .i64 (c x)∧X=h')) :
  yO Tryz.prog w0 149 [v,tv,.func (.func k0) #[] caps.toArray] X (fun r h'=>∃ i:Nat,r=.tuple #[.int .i64 (i:Int),.bool (dT c xs i)]∧BsAt (fun x=>decide (c x<0)) xs i∧X=h'):=by
 obtain ⟨a,cc,rfl⟩:=hv.shape
 refine zN Tryz.func149 M Tryz.ntmps149 Tryz.results149 M fun fr=>?_
 refine zaS ?_
 refine gR (fun m g L=>∃ (i j:Nat) (R:Hp),i≤j∧j≤xs.length∧m=j - i∧g=[(0,.slice a xs.length cc),(1,tv),(2,.func (.func k0) #[] caps.toArray),(8,.int .i64 xs.length),(9,.int .i64 i),(10,.int .i64 j)]∧L=X+fr+R ∧
   (∀ h:0<i∧i - 1<xs.length,c xs[i - 1]<0)∧(∀ h:j<xs.length,¬ c xs[j]<0)) _ _ ⟨0,xs.length,0,by omega,by omega,rfl,rfl,(yA _).symm,fun h=>absurd h.1 (by omega),fun h=>absurd h (by omega)⟩ zsb ?_
 rintro m g L ⟨i,j,R,hij,hjn,rfl,rfl,rfl,hlo,hhi⟩
 refine zaV ?_
 refine yF M M (yS M M) (fun h2=>?_) (fun h2=>?_)
 ·have hx:(i+j) / 2<xs.length:=by omega
  obtain ⟨b2,o2,rfl,e,hr,hat⟩:=hv.at hx
  repeat (first|refine zF ?_|refine zR ?_|refine zB ?_|refine zE ?_|refine zK M M M ?_|refine zP ?_|refine zJ M ?_|refine yU M M (by omega) (by omega) M M ?_)
  refine yG M M (kV M (m:=((i+j:Nat):Int)) (by rw [u64_in (by omega) (by omega)]; omega)) ?_
  refine yG M M (pv_shr1 M M) ?_
  refine yG M M (pv_conv_in M (by omega) (by omega)) ?_
  repeat (first|refine zF ?_|refine zB ?_|refine zE ?_|refine zK M M M ?_|refine kC M M (by omega) M M ?_)
  refine dJ M M (yE M) (zH M hat (beq_iff_eq.2 (Rep.len hr))) ?_
  repeat (refine zK M M M ?_)
  refine zX M M (zQ M M (by simp<;>rfl)) (hp X xs[(i+j) / 2] e (List.getElem_mem hx) hr) ?_
  rintro _ _ ⟨rfl,rfl⟩
  refine yF M M (yS M M) (fun h3=>?_) (fun h3=>?_)
  ·repeat (first|refine zB ?_|refine zE ?_|refine zK M M M ?_|refine zJ M ?_|refine yU M M (by omega) (by omega) M M ?_)
   exact ⟨j - ((i+j) / 2+1),_,by omega,zsb,(i+j) / 2+1,j,_,by omega,by omega,rfl,rfl,yJ.out,fun h=>by simpa using h3,hhi⟩
  ·refine zaG ?_
   exact ⟨(i+j) / 2 - i,_,by omega,zsb,i,(i+j) / 2,_,by omega,by omega,rfl,rfl,yJ.out,hlo,fun h=>h3⟩
 ·obtain rfl:i=j:=by omega
  have hbs:BsAt (fun x=>decide (c x<0)) xs i:=⟨hjn,fun h=>by simpa using hlo h,fun h=>by simpa using hhi h⟩
  refine zbB ?_
  refine yF M M (yS M M) (fun h3=>?_) (fun h3=>?_)
  ·have hx:i<xs.length:=by omega
   obtain ⟨b2,o2,rfl,e,hr,hat⟩:=hv.at hx
   repeat (first|refine zK M M M ?_|refine kC M M (by omega) M M ?_)
   refine dJ M M (yE M) (zH M hat (beq_iff_eq.2 (Rep.len hr))) ?_
   repeat (refine zK M M M ?_)
   refine zX M M (zQ M M (by simp<;>rfl)) (hp X xs[i] e (List.getElem_mem hx) hr) ?_
   rintro _ _ ⟨rfl,rfl⟩
   refine yG M M (yK M M) ?_
   refine zaE ?_
   exact ⟨[_,_],X,_,⟨rfl,rfl,trivial⟩,⟨i,by rw [dT,dif_pos hx]; rfl,hbs,rfl⟩,yJ.out⟩
  ·refine zbJ ?_
   exact ⟨[_,_],X,_,⟨rfl,rfl,trivial⟩,⟨i,by rw [dT,dif_neg (by omega)]; rfl,hbs,rfl⟩,yJ.out⟩
theorem zbC {G G' : Prop} (h : G') (f : Zh G'→G:=by intro h; (repeat (first|refine zF ?_|refine zB ?_|refine zE ?_|refine zK M M M ?_|refine yT M M M ?_)); exact h.o) : G:=f ⟨h⟩
theorem zcW {G G' : Prop} (h : G') (f : Zh G'→G:=by intro h; (repeat (first|refine zF ?_|refine zB ?_|refine zE ?_|refine zK M M M ?_|refine yT M M M ?_|refine zP ?_|refine zI M ?_)); exact h.o) : G:=f ⟨h⟩
theorem zcX {G G' : Prop} (h : G') (f : Zh G'→G:=by intro h; (repeat (first|refine zF ?_|refine zB ?_|refine zE ?_|refine zK M M M ?_|refine yU M M (by omega) (by omega) M M ?_)); exact h.o) : G:=f ⟨h⟩
theorem zaY {G G' : Prop} (h : G') (f : Zh G'→G:=by intro h; (repeat (first|refine zF ?_|refine zB ?_|refine zE ?_|refine zK M M M ?_|refine zJ M ?_)); exact h.o) : G:=f ⟨h⟩
theorem zbG {G G' : Prop} (h : G') (f : Zh G'→G:=by intro h; (repeat (first|refine zF ?_|refine zB ?_|refine zE ?_|refine zK M M M ?_|refine zM ?_)); exact h.o) : G:=f ⟨h⟩
theorem zdZ {G G' : Prop} (h : G') (f : Zh G'→G:=by intro h; (repeat (first|refine zF ?_|refine zB ?_|refine zE ?_|refine zK M M M ?_|refine zP ?_|refine zI M ?_|refine yU M M (by omega) (by omega) M M ?_)); exact h.o) : G:=f ⟨h⟩
theorem zcY {G G' : Prop} (h : G') (f : Zh G'→G:=by intro h; (repeat (first|refine zF ?_|refine zE ?_|refine zK M M M ?_|refine zJ M ?_)); exact h.o) : G:=f ⟨h⟩
theorem insertWr_spec (w0:World) (b cap bv i:Nat) (es:List (List Value)) (spare kc:List Value) (hi:i<es.length) (hes:∀ x∈es,x.length=2) (h1:∀ n∈es,∀ u∈n,u.oneCell'=true) (hcap:es.length≤cap) (hmax:cap≤maxLen) (hsp:spare.length=(cap - es.length)*2)
  (hk:kc.length=2) (hk1:∀ u∈kc,u.oneCell'=true) (hlim:es.length≤1000000000) :
  yO Tryz.prog w0 152 [.slice (some ⟨b,0,none⟩) es.length cap,.int .i64 (i:Int),.slice (some ⟨bv,0,none⟩) 1 1]
   (pt b (.cells (es.flatten++spare).toArray 44 (0,0))+pt bv (.cells kc.toArray 44 (0,0)))
   (fun r h'=>gH 44 2 (es.take i++kc::es.drop i) r h'):=by
 refine zN Tryz.func152 M Tryz.ntmps152 Tryz.results152 M fun fr=>?_
 refine zaC ?_
 refine yG M M (vP (l:=i) M M (by omega)) ?_
 refine zbC ?_
 refine yP M M (yK M M) (by decide) ?_
 refine zcW ?_
 refine yP M M (yK M M) (by omega) ?_
 refine zdZ ?_
 refine yG M M (pv_cap M) ?_
 have eflat:es.flatten=(es.take i).flatten++(es.drop i).flatten:=by rw [← List.flatten_append,List.take_append_drop]
 have lA:(es.take i).flatten.length=i*2:=by rw [jL (fun x hx=>hes x (List.mem_of_mem_take hx)),List.length_take,Nat.min_eq_left (by omega)]
 have lD:(es.drop i).flatten.length=(es.length - i)*2:=by rw [jL (fun x hx=>hes x (List.mem_of_mem_drop hx)),List.length_drop]
 have hkc1:∀ n∈[kc],∀ u∈n,u.oneCell'=true:=by intro n hn; rw [List.mem_singleton] at hn; subst hn; exact hk1
 have hall:∀ x∈es.take i++kc::es.drop i,x.length=2:=by
  intro x hx
  rcases List.mem_append.1 hx with hx|hx
  ·exact hes x (List.mem_of_mem_take hx)
  ·rcases List.mem_cons.1 hx with rfl|hx
   ·exact hk
   ·exact hes x (List.mem_of_mem_drop hx)
 have hlen:(es.take i++kc::es.drop i).length=es.length+1:=by simp; omega
 refine yF M M (kB M M) (fun hg=>?_) (fun hg=>?_)
 ·refine zaY ?_
  refine yG M M (pv_slice_h (m:=i) M M (by omega)) ?_
  repeat (first|refine zK M M M ?_|refine yU M M (by omega) (by omega) M M ?_|refine gA M M (by omega) (by omega) M M ?_)
  rw [show (es.length:Int)+((1:Nat):Int) - (i:Int)=((es.length+1 - i:Nat):Int) by omega]
  refine kF M M (ev_append_zeros (olds:=(es.take i).flatten) M M (by rw [eflat,List.append_assoc,← lA,List.take_left]) (by rw [List.length_append,eflat,List.length_append,lA]; omega) (by omega) M M (by omega) M (by omega)) ?_
  rintro _ _ ⟨b2,cap2,spare2,rfl,hc2,hmax2,hsp2,rfl⟩
  rw [show i+(es.length+1 - i)=es.length+1 by omega] at *
  obtain ⟨D1,D2,hD,l1,l2⟩:∃ D1 D2,(List.replicate (es.length+1 - i) (Value.cells (.agg #[.int .i64 0,.slice none 0 0])).toList).flatten=D1++D2∧D1.length=2∧D2.length=(es.length - i)*2 :=
   ⟨_,_,(List.take_append_drop 2 _).symm,by simp [Value.cells]; omega,by simp [Value.cells]; omega⟩
  rw [hD]
  refine zaC ?_
  refine yG M M (vP (l:=i) M M (by omega)) ?_
  rw [vH (b:=b2) (l:=i) (cap:=cap2) (by omega)]
  repeat (refine zK M M M ?_)
  refine kF M M (ev_copy (n:=1) M M (wQ hk) (fun n hn=>hkc1 n (List.mem_of_mem_take hn)) (Nat.min_eq_left (by simp only [List.length_singleton]; omega)) (by omega) (by omega) (by simp only [List.length_append,lA,l1,l2]; omega)) ?_
  rintro _ _ ⟨rfl,rfl⟩
  have c1:((es.take i).flatten++(D1++D2)++spare2).take (0+i*2)++([kc].take 1).flatten++((es.take i).flatten++(D1++D2)++spare2).drop (0+i*2+1*2)=(es.take i).flatten++kc++D2++spare2:=by
   have:=copy_at (A:=(es.take i).flatten) (D:=D1) (E:=D2++spare2) (F:=kc) lA l1
   simpa [List.append_assoc] using this
  rw [c1]
  have hrd:uA w0 (pt b2 (.cells ((es.take i).flatten++kc++D2++spare2).toArray 44 (0,0))+(pt b (.cells (es.flatten++spare).toArray 44 (0,0))+pt bv (.cells kc.toArray 44 (0,0))+fr)) 2 (.slice (some ⟨b,0,none⟩) es.length cap) es:=rd_block hes
  have hrd2:=hrd.drop (l:=i) (by omega) hcap
  rw [vH (b:=b) (l:=i) (cap:=cap) (by omega)] at hrd2
  repeat (first|refine zF ?_|refine zE ?_)
  refine yB [8] [0,1,2,3,4,5,6,7,8] (by kernel_rfl) M (by kernel_rfl) (by kernel_rfl) ?_
  repeat (first|refine yH M M M M M ?_|refine yD M M M M (dE M M (by omega) (by omega)) ?_)
  refine yD M M M M (vP (l:=i+1) M M (by omega)) ?_
  rw [vH (b:=b2) (l:=i+1) (cap:=cap2) (by omega)]
  repeat (refine yH M M M M M ?_)
  refine yD M M M M (vP (l:=i) M M (by omega)) ?_
  rw [vH (b:=b) (l:=i) (cap:=cap) (by omega)]
  refine xS M M M M (ev_copy (n:=es.length - i) M M hrd2 (fun n hn=>h1 n (List.mem_of_mem_drop (List.mem_of_mem_take hn))) (by rw [List.length_drop]; exact Nat.min_eq_left (by omega)) (by omega) (by omega) (by simp only [List.length_append,lA,hk,l2]; omega)) (xF.all _) ?_
  rintro _ _ ⟨rfl,rfl⟩
  refine ⟨trivial,?_⟩
  have c2:((es.take i).flatten++kc++D2++spare2).take (0+(i+1)*2)++((es.drop i).take (es.length - i)).flatten++((es.take i).flatten++kc++D2++spare2).drop (0+(i+1)*2+(es.length - i)*2)=(es.take i++kc::es.drop i).flatten++spare2:=by
   rw [show (es.drop i).take (es.length - i)=es.drop i from List.take_of_length_le (by rw [List.length_drop]; omega)]
   have:=copy_at (A:=(es.take i).flatten++kc) (D:=D2) (E:=spare2) (F:=(es.drop i).flatten) (o:=0+(i+1)*2) (by rw [List.length_append,lA,hk]; omega) l2
   rw [this,List.flatten_append,List.flatten_cons,List.append_assoc,List.append_assoc,List.append_assoc,List.append_assoc]
  rw [c2]
  repeat (refine yI ?_)
  refine zbG ?_
  have hrow:=jH (E:=44) (b:=b2) (cap:=cap2) (spare:=spare2) hall (by rw [hlen]; omega) hmax2 (by rw [hlen]; exact hsp2)
  rw [hlen] at hrow
  exact ⟨[_],_,_,⟨rfl,trivial⟩,hrow,yJ.out⟩
 ·refine zdZ ?_
  refine yG M M (pv_slice_h (m:=es.length+1) M M (by omega)) ?_
  refine zcX ?_
  obtain ⟨S1,S2,hS,l1,l2⟩:∃ S1 S2,spare=S1++S2∧S1.length=2∧S2.length=(cap - (es.length+1))*2 :=
   ⟨_,_,(List.take_append_drop 2 spare).symm,by rw [List.length_take,hsp]; omega,by rw [List.length_drop,hsp]; omega⟩
  subst hS
  refine yG M M (vP (l:=i+1) M M (by omega)) ?_
  rw [vH (b:=b) (l:=i+1) (cap:=cap) (by omega)]
  refine kF M M (ev_overlaps (t:=22) (tR:=4) (c1:=kc) (c2:=es.flatten++(S1++S2)) (e1:=44) (e2:=44) Tryz.func225 (by kernel_rfl) (by kernel_rfl) (by kernel_rfl) (by kernel_rfl) M M (by simp only [List.length_append,l1]; omega)) ?_
  rintro _ _ ⟨rfl,rfl⟩
  refine zcY ?_
  have hes':∀ x∈es++[S1],x.length=2:=by
   intro x hx
   rcases List.mem_append.1 hx with hx|hx
   ·exact hes x hx
   ·rw [List.mem_singleton] at hx; subst hx; exact l1
  have ecells:es.flatten++(S1++S2)=(es++[S1]).flatten++S2:=by simp
  rw [ecells]
  have hrd:uA w0 (pt b (.cells ((es++[S1]).flatten++S2).toArray 44 (0,0))+pt bv (.cells kc.toArray 44 (0,0))+fr) 2 (.slice (some ⟨b,0,none⟩) (es++[S1]).length cap) (es++[S1]):=rd_block hes'
  rw [show (es++[S1]).length=es.length+1 by simp] at hrd
  have hrd2:=hrd.drop (l:=i) (by omega) (by omega)
  rw [vH (b:=b) (l:=i) (cap:=cap) (by omega)] at hrd2
  have hd1:(es++[S1]).drop i=es.drop i++[S1]:=List.drop_append_of_le_length (by omega)
  rw [hd1] at hrd2
  have h1':∀ n∈(es.drop i++[S1]).take (es.length - i),∀ u∈n,u.oneCell'=true:=by
   rw [List.take_left' (by rw [List.length_drop])]
   exact fun n hn=>h1 n (List.mem_of_mem_drop hn)
  refine yB [8] [0,1,2,3,4,5,6,7,8] (by kernel_rfl) M (by kernel_rfl) (by kernel_rfl) ?_
  repeat (first|refine yH M M M M M ?_|refine yD M M M M (dE M M (by omega) (by omega)) ?_)
  refine yD M M M M (vP (l:=i+1) M M (by omega)) ?_
  rw [vH (b:=b) (l:=i+1) (cap:=cap) (by omega)]
  repeat (refine yH M M M M M ?_)
  refine yD M M M M (vP (l:=i) M M (by omega)) ?_
  rw [vH (b:=b) (l:=i) (cap:=cap) (by omega)]
  refine xS M M M M (ev_copy (n:=es.length - i) M M hrd2 h1' (by rw [List.length_append,List.length_drop,List.length_singleton]; show min _ _=_; omega) (by omega) (by omega) (by simp only [List.length_append,List.flatten_append,eflat,lA,lD,l1,l2,List.flatten_cons,List.flatten_nil,List.length_nil]; omega)) (xF.all _) ?_
  rintro _ _ ⟨rfl,rfl⟩
  refine ⟨trivial,?_⟩
  have lA':(es.take (i+1)).flatten.length=0+(i+1)*2:=by rw [jL (fun x hx=>hes x (List.mem_of_mem_take hx)),List.length_take,Nat.min_eq_left (by omega)]; omega
  have lD':((es.drop (i+1)).flatten++S1).length=(es.length - i)*2:=by rw [List.length_append,jL (fun x hx=>hes x (List.mem_of_mem_drop hx)),List.length_drop,l1]; omega
  have lI:es[i].length=2:=hes _ (List.getElem_mem hi)
  have esp:(es.take (i+1)).flatten=(es.take i).flatten++es[i]:=by rw [List.take_succ_eq_append_getElem hi,List.flatten_append]; simp
  have c1:((es++[S1]).flatten++S2).take (0+(i+1)*2)++((es.drop i++[S1]).take (es.length - i)).flatten++((es++[S1]).flatten++S2).drop (0+(i+1)*2+(es.length - i)*2)=(es.take i).flatten++es[i]++((es.drop i).flatten++S2):=by
   have e0:(es++[S1]).flatten++S2=(es.take (i+1)).flatten++((es.drop (i+1)).flatten++S1)++S2:=by
    have e3:es.flatten=(es.take (i+1)).flatten++(es.drop (i+1)).flatten:=by rw [← List.flatten_append,List.take_append_drop]
    rw [List.flatten_append,e3]; simp [List.append_assoc]
   rw [e0,List.take_left' (by rw [List.length_drop]:(es.drop i).length=es.length - i),copy_at lA' lD',esp,List.append_assoc]
  rw [c1]
  repeat (refine yI ?_)
  refine zaV ?_
  refine yG M M (vP (l:=i) M M (by omega)) ?_
  rw [vH (b:=b) (l:=i) (cap:=cap) (by omega)]
  repeat (refine zK M M M ?_)
  refine kF M M (ev_copy (n:=1) M M (wQ hk) (fun n hn=>hkc1 n (List.mem_of_mem_take hn)) (Nat.min_eq_left (by simp only [List.length_singleton]; omega)) (by omega) (by omega) (by simp only [List.length_append,lA,lI]; omega)) ?_
  rintro _ _ ⟨rfl,rfl⟩
  have c2:((es.take i).flatten++es[i]++((es.drop i).flatten++S2)).take (0+i*2)++([kc].take 1).flatten++((es.take i).flatten++es[i]++((es.drop i).flatten++S2)).drop (0+i*2+1*2)=(es.take i++kc::es.drop i).flatten++S2:=by
   have:=copy_at (A:=(es.take i).flatten) (D:=es[i]) (E:=(es.drop i).flatten++S2) (F:=kc) (o:=0+i*2) (m:=1*2) (by rw [lA]; omega) (by rw [lI])
   rw [show ([kc].take 1).flatten=kc by simp,this,List.flatten_append,List.flatten_cons,List.append_assoc,List.append_assoc,List.append_assoc]
  rw [c2]
  refine zbG ?_
  have hrow:=jH (E:=44) (b:=b) (cap:=cap) (spare:=S2) hall (by rw [hlen]; omega) hmax (by rw [hlen]; exact l2)
  rw [hlen] at hrow
  exact ⟨[_],_,_,⟨rfl,trivial⟩,hrow,yJ.out⟩
theorem insertAtWr_spec (w0:World) (es:List (List Value)) (v:Value) (h:Hp) (bv i:Nat) (kc:List Value) (hr:gH 44 2 es v h) (hi:i≤es.length) (h1:∀ n∈es,∀ u∈n,u.oneCell'=true)
  (hk:kc.length=2) (hk1:∀ u∈kc,u.oneCell'=true) (hlim:es.length≤1000000000) :
  yO Tryz.prog w0 152 [v,.int .i64 (i:Int),.slice (some ⟨bv,0,none⟩) 1 1] (h+pt bv (.cells kc.toArray 44 (0,0)))
   (fun r h'=>gH 44 2 (es.take i++kc::es.drop i) r h'):=by
 rcases Nat.lt_or_ge i es.length with hlt|hge
 ·obtain ⟨b,cap,spare,rfl,rfl,h2,h3,h4,h5⟩:=hr.nonempty (by intro e; subst e; simp at hlt)
  exact insertWr_spec w0 b cap bv i es spare kc hlt h2 h1 h3 h4 h5 hk hk1 hlim
 ·obtain rfl:i=es.length:=by omega
  obtain ⟨a,c,rfl⟩:=hr.shape
  have hkc1:∀ n∈[kc],∀ u∈n,u.oneCell'=true:=by intro n hn; rw [List.mem_singleton] at hn; subst hn; exact hk1
  refine zN Tryz.func152 M Tryz.ntmps152 Tryz.results152 M fun fr=>?_
  refine zaC ?_
  refine yG M M (vP (l:=es.length) M M (by omega)) ?_
  refine zbC ?_
  refine yP M M (yK M M) (by decide) ?_
  refine zcW ?_
  refine kD M M (yK M M) M ?_
  refine zaY ?_
  refine kF M M (ev_append (xs:=es) (h:=h) (ns:=[kc]) M M hr (wQ hk) hkc1 M M M (by simp only [List.length_singleton]; omega)) ?_
  rintro v' _ ⟨h',hr',rfl⟩
  refine zaE ?_
  rw [show es++[kc]=es.take es.length++kc::es.drop es.length by simp] at hr'
  exact ⟨[_],h',_,⟨rfl,trivial⟩,hr',yJ.out⟩
theorem cmp_neg {a b:Int}:(cmpI a b<0)=(a - b<0):=by
 unfold cmpI
 apply propext
 split
 ·omega
 ·split<;>omega
theorem cmp_zero {a b:Int}:(cmpI a b=0)=(a - b=0):=by
 unfold cmpI
 apply propext
 split
 ·omega
 ·split<;>omega
def RisesW (l:List Wr):Prop:=l.Pairwise fun a b=>a.block<b.block
def isW (n:Int) (w:Wr):Bool:=decide (w.block=n)
def setW (l:List Wr) (n:Int) (d:List Bt):List Wr:=l.filter (fun x=>decide (x.block<n))++⟨n,d⟩::l.filter (fun x=>decide (n<x.block))
def dU (l:List Wr) (n:Int) (d:List Bt):List Wr × Int :=
 if ¬ (0≤n∧n<64) then (l,20) else if d.length≠4 then (l,21) else if l.any (isW n)=false∧8≤l.length then (l,17) else (setW l n d,0)
theorem write1_spec (w0:World) (e:List Value) (w:Wr) (Y:Hp) (he:Rep.rd w0 Y w e) (n:Int) :
  yO Tryz.prog w0 150 [.agg e.toArray,.int .i64 n] 0 (fun r h'=>r=.int .i64 (cmpI w.block n)∧0=h'):=by
 obtain ⟨a,c,rfl,_⟩:=he
 refine zN Tryz.func150 M Tryz.ntmps150 Tryz.results150 M fun fr=>?_
 repeat (first|refine zF ?_|refine zB ?_|refine zE ?_|refine zK M M M ?_|refine zY M M M M M ?_|refine yM M M M M M ?_|refine xN M (c:=[_,_]) M M M (fun _=>?_))
 refine zX M M (zQ M M M) (compare_spec w0 w.block n) ?_
 rintro _ _ ⟨rfl,rfl⟩
 refine zaE ?_
 exact ⟨[_],0,_,⟨rfl,trivial⟩,⟨rfl,rfl⟩,yJ.out⟩
theorem inDisk_spec (w0:World) (n:Int):yO Tryz.prog w0 144 [.int .i64 n] 0 (fun r h'=>r=.bool (decide (0≤n∧n<64))∧0=h'):=by
 refine zN Tryz.func144 M Tryz.ntmps144 Tryz.results144 M fun fr=>?_
 refine zaC ?_
 refine yF M M (kQ M M) (fun n1=>?_) (fun n1=>?_)
 ·repeat (refine zK M M M ?_)
  refine yG M M (yS M M) ?_
  refine zaE ?_
  exact ⟨[_],0,_,⟨rfl,trivial⟩,⟨congrArg Value.bool (decide_eq_decide.2 ⟨fun h=>⟨by omega,h⟩,fun h=>h.2⟩),rfl⟩,yJ.out⟩
 ·refine zbJ ?_
  exact ⟨[_],0,_,⟨rfl,trivial⟩,⟨(bool_no (by omega)),rfl⟩,yJ.out⟩
end Sl
end Go.Proofs.YtfahijncpmlhjaaGreat
namespace Go.Proofs.YtfahijncpmlhjaaGreat
open Go Go.RowKit
namespace Sl
theorem setW_rises {l:List Wr} (h:RisesW l) (n:Int) (d:List Bt):RisesW (setW l n d):=by
 unfold RisesW setW
 rw [List.pairwise_append]
 refine ⟨h.filter _,?_,?_⟩
 ·rw [List.pairwise_cons]
  refine ⟨fun x hx=>?_,h.filter _⟩
  have:=(List.mem_filter.1 hx).2
  simpa using this
 ·intro x hx y hy
  have h1:x.block<n:=by simpa using (List.mem_filter.1 hx).2
  rcases List.mem_cons.1 hy with rfl|hy
  ·exact h1
  ·have h2:n<y.block:=by simpa using (List.mem_filter.1 hy).2
   omega
end Sl
end Go.Proofs.YtfahijncpmlhjaaGreat
namespace Go.Proofs.YtfahijncpmlhjaaGreat
open Go Go.RowKit Go.ChangeShapes Go.WideShapes Go.ChangeAt Go.Deep
namespace Sl
section
variable {H:Type} {enc:TypeId × Value→H} {P:Program} {w0:World}
theorem weightsAll_mem' {e:TypeId}:∀ {l:List (DataW H)} {d:DataW H},d∈l→∀ n∈d.weights P e,n∈DataW.weightsAll P e l
 | x::l,d,hd,n,hn=>by
  simp only [DataW.weightsAll]
  rcases List.mem_cons.1 hd with rfl|hd
  ·exact List.mem_append_left _ hn
  ·exact List.mem_append_right _ (weightsAll_mem' hd n hn)
theorem open_rd {t e:TypeId} {sz fuel:Nat} {v:Value} {d:DataW H} {p:List MemPlace} (ht:P.underlying t=some (.slice e)) (hsz:P.cellsOf e=sz) (h0:0<sz)
  (h:DataW.trod enc P w0 0 (fun _=>true) true fuel t [v]=some (d,p)) {B:Nat} (hB:∀ n∈d.weights P t,n≤B) :
  ∃ es,uA w0 0 sz v es∧es.length*P.bytesOf e≤B∧∀ (i:Nat) (x:List Value),es[i]?=some x→∃ D Pl n,DataW.trod enc P w0 0 (fun _=>true) true n e x=some (D,Pl)∧∀ m∈D.weights P e,m≤B:=by
 rcases open_slice ht h with ⟨hc,hx⟩|⟨a,len,cap,m,n,D,Pl,hc,hb,hl,hm,hmm,hx,hall⟩
 ·simp only [List.cons.injEq,and_true] at hc
  subst hc
  exact ⟨[],⟨none,0,rfl,by simp,fun i x hx=>by simp at hx⟩,by simp,fun i x hx=>by simp at hx⟩
 ·simp only [List.cons.injEq,and_true] at hc
  subst hc
  simp only [if_true] at hmm
  subst hmm
  simp only [Prod.mk.injEq] at hx
  obtain ⟨rfl,rfl⟩:=hx
  rw [hsz] at hall
  obtain ⟨F,hF⟩:=choose_lt (α:=List Value) hall
  have hat:∀ (i:Nat) (x:List Value),((List.range len).map F)[i]?=some x→i<len∧x=F i:=by
   intro i x hx
   rw [List.getElem?_map] at hx
   by_cases hi:i<len
   ·rw [List.getElem?_range hi] at hx
    exact ⟨hi,(Option.some.inj hx).symm⟩
   ·rw [List.getElem?_eq_none (by simpa using hi)] at hx; cases hx
  have hlen:∀ i,i<len→(F i).length=sz:=fun i hi=>(World.cells?_some (hF i (by omega)).1).2.1
  refine ⟨(List.range len).map F,⟨some a,m,by simp,?_,?_⟩,?_,?_⟩
  ·intro x hx
   obtain ⟨i,hi,rfl⟩:=List.mem_map.1 hx
   exact hlen i (List.mem_range.1 hi)
  ·intro i x hx
   obtain ⟨hi,rfl⟩:=hat i x hx
   have hspot:a.spot=none:=by
    obtain ⟨_,h2,h3⟩:=World.cells?_some (hF 0 (by omega)).1
    have h4:=h3 0 h0
    rw [List.getElem?_eq_getElem (show 0<(F 0).length by omega)] at h4
    simpa [Addr.add] using World.cell?_spot h4
   obtain ⟨b,off,spot⟩:=a
   obtain rfl:spot=none:=hspot
   refine ⟨b,off,rfl,fun j u hu=>?_⟩
   obtain ⟨_,h2,h3⟩:=World.cells?_some (hF i (by omega)).1
   have hj:j<sz:=by rw [← h2]; exact (List.getElem?_eq_some_iff.1 hu).1
   have h4:=h3 j hj
   rw [add_none,add_none,hu] at h4
   exact reads_base h4
  ·have:=hB ((((List.range len).map D).length+((List.range (m - len)).map fun j=>D (len+j)).length)*P.bytesOf e) (by simp [DataW.weights,ht])
   refine Nat.le_trans (Nat.mul_le_mul_right _ ?_) this
   simp
  ·intro i x hx
   obtain ⟨hi,rfl⟩:=hat i x hx
   refine ⟨D i,Pl i,n,(hF i (by omega)).2,fun q hq=>hB q ?_⟩
   simp only [DataW.weights,ht]
   refine List.mem_cons_of_mem _ (List.mem_append_left _ (weightsAll_mem' (List.mem_map.2 ⟨i,List.mem_range.2 hi,rfl⟩) q hq))
end
end Sl
end Go.Proofs.YtfahijncpmlhjaaGreat
