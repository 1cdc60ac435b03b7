/-
  What clientOrder.proved hangs on, part 1 of 7: Sl, Ops, Vals, Tab, Effs, LKit, Eff2, Nest, Eq, LkA, LkB, LkC, Rep, Go, ShNum, ClT.
-/
import Derived.WalkKit
import Derived.Orders
import Derived.OrdersHeld
import Derived.WalkSpells
import Derived.Test.YtfahijncpmlhjaaGreatProg
import Derived.Laws.StructEq
import Derived.ChangeKeysEq
import Derived.Laws.CopyRow
import Derived.Lib.AppendZerosOnto
import Derived.Lib.Overlaps
set_option linter.unusedVariables false
set_option linter.unusedSimpArgs false
namespace Go.Proofs.YtfahijncpmlhjaaGreat
/-- rfl, by a short name. -/
theorem M.{u} {α : Sort u} {a : α} : a = a := rfl
end Go.Proofs.YtfahijncpmlhjaaGreat
namespace Go.Proofs.YtfahijncpmlhjaaGreat
open Go Go.RowKit
namespace Sl
def Hp :Type:=Quotient (List.isSetoid (Nat × Obj))
def Hp.mk (l:List (Nat × Obj)):Hp:=Quotient.mk _ l
def pt (b:Nat) (o:Obj):Hp:=Hp.mk [(b,o)]
def Hp.add (a b:Hp):Hp :=
 Quotient.liftOn₂ a b (fun x y=>Hp.mk (x++y)) (fun _ _ _ _ h1 h2=>Quotient.sound (List.Perm.append h1 h2))
instance :Add Hp:=⟨Hp.add⟩
instance :Zero Hp:=⟨Hp.mk []⟩
theorem mk_add (x y:List (Nat × Obj)):Hp.mk x+Hp.mk y=Hp.mk (x++y):=rfl
theorem Hp.ind {p:Hp→Prop} (h:∀ l,p (Hp.mk l)) (a:Hp):p a:=Quotient.ind h a
theorem hadd_assoc (a b c:Hp):a+b+c=a+(b+c):=by
 induction a using Hp.ind; induction b using Hp.ind; induction c using Hp.ind
 simp only [mk_add,List.append_assoc]
theorem hadd_comm (a b:Hp):a+b=b+a:=by
 induction a using Hp.ind; induction b using Hp.ind
 simp only [mk_add]
 exact Quotient.sound List.perm_append_comm
theorem hzero_add (a:Hp):0+a=a:=by
 induction a using Hp.ind
 show Hp.mk []+_=_
 rw [mk_add]; rfl
theorem yA (a:Hp):a+0=a:=by rw [hadd_comm,hzero_add]
instance :Std.Associative (α:=Hp) (·+·):=⟨hadd_assoc⟩
instance :Std.Commutative (α:=Hp) (·+·):=⟨hadd_comm⟩
instance :Std.LawfulIdentity (α:=Hp) (·+·) 0:={ left_id:=hzero_add,right_id:=yA }
def SatL (B:Nat) (w:World) (l:List (Nat × Obj)):Prop :=
 (l.map (·.1)).Nodup∧∀ p∈l,B≤p.1∧w.heap[p.1]?=some p.2
theorem SatL.perm {B:Nat} {w:World} {l m:List (Nat × Obj)} (h:l.Perm m) (s:SatL B w l):SatL B w m :=
 ⟨(h.map _).nodup s.1,fun p hp=>s.2 p (h.mem_iff.2 hp)⟩
def Sat (B:Nat) (w:World) (h:Hp):Prop :=
 Quotient.liftOn h (SatL B w) (fun _ _ e=>propext ⟨SatL.perm e,SatL.perm e.symm⟩)
theorem sat_mk {B:Nat} {w:World} {l:List (Nat × Obj)}:Sat B w (Hp.mk l)↔SatL B w l:=Iff.rfl
theorem Sat.left {B:Nat} {w:World} {a b:Hp}:Sat B w (a+b)→Sat B w a:=by
 induction a using Hp.ind; induction b using Hp.ind
 rw [mk_add,sat_mk,sat_mk]
 rintro ⟨h1,h2⟩
 refine ⟨?_,fun p hp=>h2 p (List.mem_append_left _ hp)⟩
 rw [List.map_append] at h1
 exact (List.nodup_append.1 h1).1
theorem Sat.right {B:Nat} {w:World} {a b:Hp} (h:Sat B w (a+b)):Sat B w b:=by
 rw [hadd_comm] at h; exact h.left
theorem Sat.pt {B:Nat} {w:World} {b:Nat} {o:Obj} (h:Sat B w (pt b o)):B≤b∧w.heap[b]?=some o :=
 h.2 (b,o) (by simp)
theorem Sat.ne {B:Nat} {w:World} {b b':Nat} {o o':Obj} (h:Sat B w (Sl.pt b o+Sl.pt b' o')):b≠b':=by
 have:=h.1; simp at this; exact this
theorem Sat.zero (B:Nat) (w:World):Sat B w 0:=⟨by simp,by simp⟩
theorem Sat.mono {B:Nat} {w w':World} {a:Hp} (h:Sat B w a) (hk:∀ k,B≤k→k<w.heap.size→w'.heap[k]?=w.heap[k]?):Sat B w' a:=by
 revert h; induction a using Hp.ind
 rintro ⟨h1,h2⟩
 exact ⟨h1,fun p hp=>⟨(h2 p hp).1,by rw [hk p.1 (h2 p hp).1 (Array.getElem?_eq_some_iff.1 (h2 p hp).2).1]; exact (h2 p hp).2⟩⟩
theorem Sat.set {B:Nat} {w w':World} {b:Nat} {o o':Obj} {R:Hp} (h:Sat B w (Sl.pt b o+R)) (hb:w'.heap[b]?=some o')
  (hk:∀ k,k≠b→k<w.heap.size→w'.heap[k]?=w.heap[k]?):Sat B w' (Sl.pt b o'+R):=by
 revert h; induction R using Hp.ind
 rintro ⟨h1,h2⟩
 simp only [List.cons_append,List.nil_append,List.map_cons,List.nodup_cons] at h1
 refine ⟨by simpa using h1,fun p hp=>?_⟩
 simp only [List.cons_append,List.nil_append,List.mem_cons] at hp
 rcases hp with rfl|hp
 ·exact ⟨(h2 (b,o) (by simp)).1,hb⟩
 ·have hp':=h2 p (by simp [hp])
  have hne:p.1≠b:=fun e=>h1.1 (by rw [← e]; exact List.mem_map.2 ⟨p,hp,rfl⟩)
  exact ⟨hp'.1,by rw [hk p.1 hne (Array.getElem?_eq_some_iff.1 hp'.2).1]; exact hp'.2⟩
theorem Sat.new {B:Nat} {w w':World} {o:Obj} {R:Hp} (h:Sat B w R) (hB:B≤w.heap.size) (hb:w'.heap[w.heap.size]?=some o)
  (hk:∀ k,k<w.heap.size→w'.heap[k]?=w.heap[k]?):Sat B w' (Sl.pt w.heap.size o+R):=by
 revert h; induction R using Hp.ind
 rintro ⟨h1,h2⟩
 refine ⟨?_,fun p hp=>?_⟩
 ·simp only [List.cons_append,List.nil_append,List.map_cons,List.nodup_cons]
  refine ⟨fun hm=>?_,h1⟩
  obtain ⟨p,hp,e⟩:=List.mem_map.1 hm
  have:=(Array.getElem?_eq_some_iff.1 (h2 p hp).2).1
  omega
 ·simp only [List.cons_append,List.nil_append,List.mem_cons] at hp
  rcases hp with rfl|hp
  ·exact ⟨hB,hb⟩
  ·have hp':=h2 p hp
   exact ⟨hp'.1,by rw [hk p.1 (Array.getElem?_eq_some_iff.1 hp'.2).1]; exact hp'.2⟩
structure St (w0 w:World) (L:Hp):Prop where
 below:Below w0.heap.size w0 w
 sat:Sat w0.heap.size w L
theorem St.left {w0 w:World} {a b:Hp} (h:St w0 w (a+b)):St w0 w a:=⟨h.below,h.sat.left⟩
theorem St.right {w0 w:World} {a b:Hp} (h:St w0 w (a+b)):St w0 w b:=⟨h.below,h.sat.right⟩
theorem St.drew {w0 w:World} {a:Hp} (h:St w0 w a):St w0 w.drew a:=⟨h.below.drew,h.sat.mono fun _ _ _=>rfl⟩
theorem St.start (w0:World):St w0 w0 0:=⟨Below.refl _ _,Sat.zero _ _⟩
theorem St.alloc {w0 w:World} {L:Hp} (h:St w0 w L) (o:Obj):St w0 (w.alloc o) (pt w.heap.size o+L) :=
 ⟨h.below.alloc h.below.size o,h.sat.new h.below.size (heap_alloc_new w o) fun _ hk=>heap_alloc_old w o hk⟩
theorem St.set {w0 w w':World} {b:Nat} {o o':Obj} {R:Hp} (h:St w0 w (pt b o+R)) (hb:w'.heap[b]?=some o')
  (hk:∀ k,k≠b→w'.heap[k]?=w.heap[k]?) (hs:w.heap.size≤w'.heap.size) (ho:w'.os=w.os) (ht:w'.tape=w.tape) (hp:w'.output=w.output):St w0 w' (pt b o'+R) :=
 ⟨h.below.trans ⟨ho,ht,hp,hs,fun k hk'=>hk k (by have:=h.sat.left.pt.1; omega)⟩,h.sat.set hb fun k hn _=>hk k hn⟩
abbrev Env :=List (Nat × Value)
def look :Env→Nat→Option Value
 | [],_=>none
 | (d,v)::g,t=>if d=t then some v else look g t
def ev (g:Env):Operand→Option Value
 | .tmp t=>look g t
 | .const v=>some v
 | .global k=>some (.pointer (some ⟨k,0,none⟩))
 | .func f=>some (.func (.func f) #[] #[])
def evs (g:Env):List Operand→Option (List Value)
 | []=>some []
 | x::l=>match ev g x,evs g l with
  | some v,some vs=>some (v::vs)
  | _,_=>none
structure Fits (n:Nat) (a:Act) (g:Env):Prop where
 size:a.tmps.size=n
 nodefer:a.defers=[]
 get:∀ t v,look g t=some v→a.tmps[t]?=some v
theorem Fits.ev {n:Nat} {a:Act} {g:Env} (h:Fits n a g) {x:Operand} {v:Value} (hx:ev g x=some v):a.eval x=v:=by
 cases x with
 | tmp t=>simp only [Sl.ev] at hx; have:=h.get t v hx; simp [Act.eval,Array.getD_eq_getD_getElem?,this]
 | const c=>simpa [Sl.ev,Act.eval] using hx
 | global k=>simpa [Sl.ev,Act.eval] using hx
 | func f=>simpa [Sl.ev,Act.eval] using hx
theorem Fits.evs {n:Nat} {a:Act} {g:Env} (h:Fits n a g):∀ {xs:List Operand} {vs:List Value},Sl.evs g xs=some vs→xs.map a.eval=vs:=by
 intro xs
 induction xs with
 | nil=>intro vs hv; simpa [Sl.evs] using hv
 | cons x xs ih =>
  intro vs hv
  simp only [Sl.evs] at hv
  split at hv
  ·rename_i v vs' h1 h2
   obtain rfl:v::vs'=vs:=by simpa using hv
   simp [h.ev h1,ih h2]
  ·cases hv
def putE (g:Env):Option Nat→Value→Env
 | some d,v=>(d,v)::g
 | none,_=>g
theorem Fits.put {n:Nat} {a:Act} {g:Env} (h:Fits n a g) {dst:Option Nat} (hd:dst.all (·<n)=true) (v:Value):Fits n (a.put dst v) (putE g dst v):=by
 cases dst with
 | none=>exact h
 | some d =>
  have hd':d<n:=by simpa using hd
  refine ⟨by simp [Act.put,h.size],h.nodefer,fun t u hu=>?_⟩
  simp only [putE,look] at hu
  simp only [Act.put,Array.getElem?_setIfInBounds]
  split at hu
  ·rename_i e; subst e; rw [if_pos M,if_pos (by rw [h.size]; exact hd')]; exact hu
  ·rename_i e; rw [if_neg e]; exact h.get t u hu
def Sub (g g':Env):Prop:=∀ t v,look g' t=some v→look g t=some v
theorem zT (g:Env):Sub g []:=fun _ _ h=>by cases h
theorem zO {g g':Env} {t:Nat} {v:Value} (h:look g t=some v) (h':Sub g g'):Sub g ((t,v)::g'):=fun t' v' h2=>by
 simp only [look] at h2
 split at h2
 ·rename_i e; subst e; rw [h]; exact h2
 ·exact h' t' v' h2
theorem Sub.refl (g:Env):Sub g g:=fun _ _ h=>h
theorem Fits.sub {n:Nat} {a:Act} {g g':Env} (h:Fits n a g) (s:Sub g g'):Fits n a g':=⟨h.size,h.nodefer,fun t v hv=>h.get t v (s t v hv)⟩
abbrev Post :=Exit→Env→Hp→Prop
def lift (n:Nat) (w0:World) (Q:Post):Exit→Act→World→Prop:=fun e a w=>∃ g L,Q e g L∧Fits n a g∧St w0 w L
def Hold (P:Program) (n:Nat) (w0:World) (c:Code) (Q:Post) (g:Env) (L:Hp):Prop :=
 ∀ a w,Fits n a g→St w0 w L→c.wp P (lift n w0 Q) a w
def HoldL (P:Program) (n:Nat) (w0:World) (ops:Array Oper) (rest:List Oper) (Q:Post) (g:Env) (L:Hp):Prop :=
 ∀ a w,Fits n a g→St w0 w L→wpList P ops (lift n w0 Q) rest a w
def Spec (P:Program) (w0:World) (f:FuncId) (args:List Value) (pre:Hp) (post:Value→Hp→Prop):Prop :=
 ∀ w fr,St w0 w (pre+fr)→Calls P f args.toArray w fun e w'=>∃ v h,e=.returned v∧post v h∧St w0 w' (h+fr)
def seqQ (P:Program) (n:Nat) (w0:World) (y:Code) (Q:Post):Post
 | .normal,g,L=>Hold P n w0 y Q g L
 | e,g,L=>Q e g L
def blockQ (id:Nat) (Q:Post):Post
 | .exit id',g,L=>if id'=id then Q .normal g L else Q (.exit id') g L
 | e,g,L=>Q e g L
def loopQ (I:Nat→Env→Hp→Prop) (m:Nat) (Q:Post):Post
 | .normal,g,L=>∃ m' g',m'<m∧Sub g g'∧I m' g' L
 | e,g,L=>Q e g L
section
variable {P:Program} {n:Nat} {w0:World} {Q:Post} {g:Env} {L:Hp}
theorem zF {x y:Code} (h:Hold P n w0 x (seqQ P n w0 y Q) g L):Hold P n w0 (.seq x y) Q g L:=by
 intro a w ha hw
 refine wp_seq (Code.wp_mono ?_ (h a w ha hw))
 rintro e a' w' ⟨g',L',hq,ha',hw'⟩
 cases e<;>first|exact hq a' w' ha' hw'|exact ⟨g',L',hq,ha',hw'⟩
theorem zP (h:Q .normal g L):Hold P n w0 .skip Q g L:=fun _ _ ha hw=>wp_skip ⟨g,L,h,ha,hw⟩
theorem zM (h:Q .ret g L):Hold P n w0 .ret Q g L:=fun _ _ ha hw=>wp_ret ⟨g,L,h,ha,hw⟩
theorem yC {id:Nat} (h:Q (.exit id) g L):Hold P n w0 (.exit id) Q g L:=fun _ _ ha hw=>wp_exit ⟨g,L,h,ha,hw⟩
theorem zR {id:Nat} {c:Code} (h:Hold P n w0 c (blockQ id Q) g L):Hold P n w0 (.block id c) Q g L:=by
 intro a w ha hw
 refine wp_block (Code.wp_mono ?_ (h a w ha hw))
 rintro e a' w' ⟨g',L',hq,ha',hw'⟩
 cases e with
 | exit id' =>
  simp only [blockQ] at hq
  simp only [Exit.inBlock]
  split at hq
  ·rename_i e; rw [if_pos e]; exact ⟨g',L',hq,ha',hw'⟩
  ·rename_i e; rw [if_neg e]; exact ⟨g',L',hq,ha',hw'⟩
 | _=>exact ⟨g',L',hq,ha',hw'⟩
theorem hold_cond {c:Operand} {x y:Code} {t:Bool} (hc:ev g c=some (.bool t)) (ht:t=true→Hold P n w0 x Q g L) (hf:t=false→Hold P n w0 y Q g L) :
  Hold P n w0 (.cond c x y) Q g L:=by
 intro a w ha hw
 exact wp_cond_split (ha.ev hc) (fun e=>ht e a w ha hw) (fun e=>hf e a w ha hw)
theorem hold_env {c:Code} {g':Env} (s:Sub g g') (h:Hold P n w0 c Q g' L):Hold P n w0 c Q g L:=fun a w ha hw=>h a w (ha.sub s) hw
theorem hold_mono {c:Code} {Q':Post} (hq:∀ e g L,Q' e g L→Q e g L) (h:Hold P n w0 c Q' g L):Hold P n w0 c Q g L:=fun a w ha hw =>
 Code.wp_mono (fun e _ _ ⟨g',L',hq',ha',hw'⟩=>⟨g',L',hq e g' L' hq',ha',hw'⟩) (h a w ha hw)
theorem hold_loop {c:Code} (I:Nat→Env→Hp→Prop) (m:Nat) (g':Env) (h0:I m g' L) (hs:Sub g g') (round:∀ m g L,I m g L→Hold P n w0 c (loopQ I m Q) g L) :
  Hold P n w0 (.loop c) Q g L:=by
 intro a w ha hw b k cs
 have key:∀ m a w,(∃ g L,I m g L∧Fits n a g∧St w0 w L) →
   ∃ e a' w',lift n w0 Q e a' w'∧Arrives P (lone (b.at a (.code c::.inLoop c::k)) cs w) b k cs e a' w':=by
  intro m
  induction m using Nat.strongRecOn with
  | _ m ih =>
   rintro a w ⟨g,L,hI,hfa,hst⟩
   obtain ⟨e,a1,w1,⟨g1,L1,hq,ha1,hw1⟩,harr⟩:=round m g L hI a w hfa hst b (.inLoop c::k) cs
   cases e with
   | normal =>
    obtain ⟨m',g2,hlt,hsub,hI1⟩:=hq
    obtain ⟨e2,a2,w2,hq2,harr2⟩:=ih m' hlt a1 w1 ⟨g2,L1,hI1,ha1.sub hsub,hw1⟩
    exact ⟨e2,a2,w2,hq2,.of_steps (Steps.trans harr (.one step_inLoop)) harr2⟩
   | exit id=>exact ⟨_,a1,w1,⟨g1,L1,hq,ha1,hw1⟩,.pass (x:=.inLoop c) M (fun _ _=>.inl (by simp)) harr⟩
   | goto l=>exact ⟨_,a1,w1,⟨g1,L1,hq,ha1,hw1⟩,.pass (x:=.inLoop c) M (fun _ _=>.inl (by simp)) harr⟩
   | ret=>exact ⟨_,a1,w1,⟨g1,L1,hq,ha1,hw1⟩,.pass (x:=.inLoop c) M (fun _ _=>.inl (by simp)) harr⟩
   | panic ch=>exact ⟨_,a1,w1,⟨g1,L1,hq,ha1,hw1⟩,.pass (x:=.inLoop c) M (fun _ _=>.inl (by simp)) harr⟩
   | outgrown=>exact ⟨_,a1,w1,⟨g1,L1,hq,ha1,hw1⟩,.pass (x:=.inLoop c) M (fun _ _=>.inl (by simp)) harr⟩
 obtain ⟨e,a',w',hq,harr⟩:=key m a w ⟨g',L,h0,ha.sub hs,hw⟩
 exact ⟨e,a',w',hq,.of_steps (.one step_loop) harr⟩
theorem hold_region {id:Nat} {ops:Array Oper} (h:HoldL P n w0 ops ops.toList Q g L):Hold P n w0 (.region id ops false) Q g L :=
 fun a w ha hw=>wp_region_list (h a w ha hw)
theorem zB {id:Nat} {l:List Oper} (h:HoldL P n w0 l.toArray l Q g L):Hold P n w0 (.region id l.toArray false) Q g L:=hold_region h
theorem zJ {c:Operand} {x y:Code} (hc:ev g c=some (.bool true)) (h:Hold P n w0 x Q g L):Hold P n w0 (.cond c x y) Q g L:=hold_cond hc (fun _=>h) (fun h=>by cases h)
theorem zI {c:Operand} {x y:Code} (hc:ev g c=some (.bool false)) (h:Hold P n w0 y Q g L):Hold P n w0 (.cond c x y) Q g L:=hold_cond hc (fun h=>by cases h) (fun _=>h)
theorem zE {ops:Array Oper} (h:Q .normal g L):HoldL P n w0 ops [] Q g L:=fun _ _ ha hw=>⟨g,L,h,ha,hw⟩
end
def oneV :List Value→Value
 | [v]=>v
 | l=>.tuple l.toArray
def Loads (P:Program) (w0:World) (L:Hp) (t:TypeId) (ad:Addr) (v:Value):Prop :=
 ∀ w,St w0 w L→(loadVar t ad).run P w=.ok v w
def ResOk (P:Program) (w0:World) (g:Env) (L:Hp):List ResultVar→List Value→Prop
 | [],[]=>True
 | .tmp t::rs,v::vs=>look g t=some v∧ResOk P w0 g L rs vs
 | .cell b t::rs,v::vs=>(∃ ad,look g b=some (.pointer (some ad))∧Loads P w0 L t ad v)∧ResOk P w0 g L rs vs
 | _,_=>False
def retQ (P:Program) (w0:World) (rs:List ResultVar) (fr:Hp) (post:Value→Hp→Prop):Post
 | .normal,g,L|.ret,g,L=>∃ vs h,ResOk P w0 g L rs vs∧post (oneV vs) h∧L=h+fr
 | _,_,_=>False
def argE :Nat→List Value→Env
 | _,[]=>[]
 | k,v::l=>(k,v)::argE (k+1) l
theorem look_argE :∀ (l:List Value) (k t:Nat) (v:Value),look (argE k l) t=some v→k≤t∧l[t - k]?=some v:=by
 intro l
 induction l with
 | nil=>intro k t v h; cases h
 | cons x l ih =>
  intro k t v h
  simp only [argE,look] at h
  split at h
  ·rename_i e; subst e; simpa using h
  ·rename_i e
   obtain ⟨h1,h2⟩:=ih (k+1) t v h
   refine ⟨by omega,?_⟩
   rw [show t - k=(t - (k+1))+1 by omega]
   simpa using h2
def resOne (tmps:Array Value):ResultVar→Sem Value
 | .tmp t=>pure (tmps.getD t undef)
 | .cell b t=>do loadVar t (← asAddr (tmps.getD b undef))
theorem results_eq (fn:Func) (tmps:Array Value):results fn tmps=(do let vs ← fn.results.mapM (resOne tmps); pure (if h:vs.size=1 then vs[0] else .tuple vs)):=by
 unfold results
 congr 1
theorem resOk_run {P:Program} {w0 w:World} {n:Nat} {a:Act} {g:Env} {L:Hp} (ha:Fits n a g) (hw:St w0 w L) (fn:Func) (rs:List ResultVar) (hr:fn.results=rs.toArray)
  {vs:List Value} (h:ResOk P w0 g L rs vs):(results fn a.tmps).run P w=.ok (oneV vs) w:=by
 have key:∀ (rs:List ResultVar) (vs:List Value),ResOk P w0 g L rs vs →
   (rs.mapM (resOne a.tmps)).run P w=.ok vs w:=by
  intro rs
  induction rs with
  | nil=>intro vs h; cases vs with
   | nil=>simp
   | cons=>simp [ResOk] at h
  | cons r rs ih =>
   intro vs h
   cases vs with
   | nil=>cases r<;>simp [ResOk] at h
   | cons v vs =>
    cases r with
    | tmp t =>
     have hv:a.tmps.getD t undef=v:=by simp [Array.getD_eq_getD_getElem?,ha.get t v h.1]
     have:=ih vs h.2
     simp only [List.mapM_cons,resOne,hv,Sem.run_bind,Sem.run_pure,Result.andThen_ok,this]
    | cell b t =>
     obtain ⟨⟨ad,h1,h2⟩,h3⟩:=h
     have hv:a.tmps.getD b undef=.pointer (some ad):=by simp [Array.getD_eq_getD_getElem?,ha.get b _ h1]
     have:=ih vs h3
     have e1:asAddr (.pointer (some ad))=(pure ad:Sem Addr):=rfl
     simp only [List.mapM_cons,resOne,hv,e1,pure_bind,Sem.run_bind,Sem.run_pure,Result.andThen_ok,this,h2 w hw]
 have e:=key rs vs h
 rw [results_eq,hr,List.mapM_toArray]
 simp only [Sem.run_bind,Sem.run_map,e,Result.andThen_ok,Sem.run_pure]
 match vs with
 | []=>rfl
 | [v]=>rfl
 | v::u::l=>simp [oneV]
theorem spec_of_hold {P:Program} {w0:World} {f:FuncId} {fn:Func} {c:Code} {n:Nat} {args:List Value} {rs:List ResultVar} {pre:Hp} {post:Value→Hp→Prop}
  (hf:P.funcs[f]?=some fn) (hb:fn.body=some c) (hn:fn.ntmps=n) (hr:fn.results=rs.toArray) (hargs:decide (args.length≤n)=true)
  (h:∀ fr,Hold P n w0 c (retQ P w0 rs fr post) (argE 0 args) (pre+fr)):Spec P w0 f args pre post:=by
 intro w fr hst
 have hle:args.length≤n:=of_decide_eq_true hargs
 refine calls_of_wp hf hb (Code.wp_mono ?_ (h fr { tmps:=args.toArray++Array.replicate (fn.ntmps - args.toArray.size) undef,defers:=[] } w ⟨by simp [hn]; omega,rfl,fun t v ht=>?_⟩ hst))
 ·rintro e a' w' ⟨g,L,hq,ha',hw'⟩
  cases e with
  | normal=>obtain ⟨vs,h',h1,h2,rfl⟩:=hq; exact ⟨ha'.nodefer,_,resOk_run ha' hw' fn rs hr h1,_,h',rfl,h2,hw'⟩
  | ret=>obtain ⟨vs,h',h1,h2,rfl⟩:=hq; exact ⟨ha'.nodefer,_,resOk_run ha' hw' fn rs hr h1,_,h',rfl,h2,hw'⟩
  | _=>exact hq.elim
 ·have:=(look_argE args 0 t v ht).2
  simp only [Nat.sub_zero] at this
  have hlt:=(List.getElem?_eq_some_iff.1 this).1
  rw [List.getElem?_eq_getElem hlt] at this
  simp [Array.getElem?_append,hlt,Option.some.inj this]
def retD (P:Program) (w0:World) (rs:List ResultVar) (fr:Hp) (post:Value→Hp→Prop):Post
 | .normal,g,L|.ret,g,L=>∃ vs h R,ResOk P w0 g L rs vs∧post (oneV vs) h∧L=h+fr+R
 | _,_,_=>False
theorem zN {P:Program} {w0:World} {f:FuncId} {fn:Func} {c:Code} {n:Nat} {args:List Value} {rs:List ResultVar} {pre:Hp} {post:Value→Hp→Prop}
  (hf:P.funcs[f]?=some fn) (hb:fn.body=some c) (hn:fn.ntmps=n) (hr:fn.results=rs.toArray) (hargs:decide (args.length≤n)=true)
  (h:∀ fr,Hold P n w0 c (retD P w0 rs fr post) (argE 0 args) (pre+fr)):Spec P w0 f args pre post:=by
 intro w fr hst
 have hle:args.length≤n:=of_decide_eq_true hargs
 refine calls_of_wp hf hb (Code.wp_mono ?_ (h fr { tmps:=args.toArray++Array.replicate (fn.ntmps - args.toArray.size) undef,defers:=[] } w ⟨by simp [hn]; omega,rfl,fun t v ht=>?_⟩ hst))
 ·rintro e a' w' ⟨g,L,hq,ha',hw'⟩
  cases e with
  | normal=>obtain ⟨vs,h',R,h1,h2,rfl⟩:=hq; exact ⟨ha'.nodefer,_,resOk_run ha' hw' fn rs hr h1,_,h',rfl,h2,hw'.left⟩
  | ret=>obtain ⟨vs,h',R,h1,h2,rfl⟩:=hq; exact ⟨ha'.nodefer,_,resOk_run ha' hw' fn rs hr h1,_,h',rfl,h2,hw'.left⟩
  | _=>exact hq.elim
 ·have:=(look_argE args 0 t v ht).2
  simp only [Nat.sub_zero] at this
  have hlt:=(List.getElem?_eq_some_iff.1 this).1
  rw [List.getElem?_eq_getElem hlt] at this
  simp [Array.getElem?_append,hlt,Option.some.inj this]
class yJ (X L:Hp) (R:outParam Hp):Prop where
 out:L=X+R
instance (priority:=1300) (L:Hp):yJ 0 L L:=⟨(hzero_add _).symm⟩
instance (priority:=1200) (X:Hp):yJ X X 0:=⟨(yA _).symm⟩
instance (priority:=1100) (X Y:Hp):yJ X (X+Y) Y:=⟨rfl⟩
instance (priority:=1000) (X Y:Hp):yJ X (Y+X) Y:=⟨hadd_comm _ _⟩
instance (priority:=900) (X1 X2 L L1 R:Hp) [h1:yJ X1 L L1] [h2:yJ X2 L1 R]:yJ (X1+X2) L R:=⟨by rw [h1.out,h2.out,hadd_assoc]⟩
instance (priority:=800) (X Y Z Y':Hp) [h:yJ X Y Y']:yJ X (Y+Z) (Y'+Z):=⟨by rw [h.out,hadd_assoc]⟩
instance (priority:=700) (X Y Z Z':Hp) [h:yJ X Z Z']:yJ X (Y+Z) (Y+Z'):=⟨by rw [h.out,← hadd_assoc,hadd_comm Y,hadd_assoc]⟩
class Und (P:Program) (t:TypeId) (d:outParam TypeDesc):Prop where
 out:P.underlying t=some d
class Inf (P:Program) (t:TypeId) (size bytes:outParam Nat) (zero:outParam Value):Prop where
 out:∃ i,P.info? t=some i∧i.size=size∧i.bytes=bytes∧i.zero=some zero
class Fun (P:Program) (k:FuncId):Prop where
 out:∃ fn,P.funcs[k]?=some fn∧(fn.name == "runtime.NumGoroutine")=false∧fn.body.isNone=false
def notAgg :TypeDesc→Bool
 | .struct _|.array _ _=>false
 | _=>true
def PV (P:Program) (g:Env) (op:Op) (v:Value):Prop :=
 ∀ (o:Oper) (a:Act) (w:World) (n:Nat),o.op=op→Fits n a g→(execOp a.eval o).run P w=.ok (.value v) w
def LV (g:Env) (op:Op) (t:TypeId) (ad:Addr):Prop :=
 ∀ (o:Oper) (a:Act) (n:Nat),o.op=op→Fits n a g→execOp a.eval o=(do pure (.value (← loadVar t ad)))
def EV (P:Program) (w0:World) (L:Hp) (g:Env) (op:Op) (post:Value→Hp→Prop):Prop :=
 ∀ (o:Oper) (a:Act) (w:World) (n:Nat),o.op=op→Fits n a g→St w0 w L →
  ∃ v w' L',((execOp a.eval o).run P w=.ok (.value v) w'∨((execOp a.eval o).run P w=.ok .skip w'∧v=undef))∧post v L'∧St w0 w' L'
def CV (P:Program) (g:Env) (op:Op) (k:FuncId) (args:List Value):Prop :=
 ∀ (o:Oper) (a:Act) (w:World) (n:Nat),o.op=op→Fits n a g→(execOp a.eval o).run P w=.ok (.enter k args.toArray) w
def yieldedE (ops:Array Oper) (g:Env) (j:Nat):Option (Option Bool) :=
 match (ops[j]?).bind (·.dst) with
 | none=>some none
 | some d=>match look g d with
  | some (.bool b)=>some (some b)
  | some (.tuple _)=>some none
  | _=>none
def wantedE (ops:Array Oper) (g:Env):Option (Nat × Bool)→Option Bool
 | none=>some true
 | some (j,want)=>(yieldedE ops g j).map (·==some want)
theorem wanted_of {ops:Array Oper} {g:Env} {o:Oper} {a:Act} {n:Nat} {b:Bool} (ha:Fits n a g) (h:wantedE ops g o.guard=some b):Region.wanted o (yielded ops a.tmps)=b:=by
 unfold wantedE at h
 unfold Region.wanted
 split at h
 ·rename_i e; simp [e] at *; exact h
 ·rename_i j want e
  simp only [e]
  unfold yieldedE at h
  unfold yielded
  cases hd:(ops[j]?).bind (·.dst) with
  | none=>simp [hd] at h ⊢; exact h
  | some d =>
   simp only [hd] at h
   cases hl:look g d with
   | none=>simp [hl] at h
   | some v =>
    have:=ha.get d v hl
    simp only [hl] at h
    simp only [Option.bind_some,this]
    cases v<;>simp_all
section
variable {P:Program} {n:Nat} {w0:World} {Q:Post} {g:Env} {L:Hp} {ops:Array Oper} {rest:List Oper} {dst:Option Nat} {op:Op} {ty:TypeId} {pos:String} {af:Array Edge} {gd:Option (Nat × Bool)}
theorem L_skip (hw:wantedE ops g gd=some false) (hd:dst.all (·<n)=true) (hk:HoldL P n w0 ops rest Q (putE g dst undef) L):HoldL P n w0 ops (⟨dst,op,ty,pos,af,gd⟩::rest) Q g L:=by
 intro a w ha hst
 exact wpList_skip (wanted_of (o:=⟨dst,op,ty,pos,af,gd⟩) ha hw) (hk _ w (ha.put hd _) hst)
theorem L_run (hw:wantedE ops g gd=some true) (h:∀ a w,Fits n a g→St w0 w L→Oper.wp P ⟨dst,op,ty,pos,af,gd⟩ a w (wpList P ops (lift n w0 Q) rest) (lift n w0 Q)):HoldL P n w0 ops (⟨dst,op,ty,pos,af,gd⟩::rest) Q g L:=by
 intro a w ha hst
 unfold wpList
 rw [if_pos (wanted_of (o:=⟨dst,op,ty,pos,af,gd⟩) ha hw)]
 exact .inl (h a w ha hst)
theorem yG (hw:wantedE ops g gd=some true) (hd:dst.all (·<n)=true) {v:Value} (h:PV P g op v) (hk:HoldL P n w0 ops rest Q (putE g dst v) L):HoldL P n w0 ops (⟨dst,op,ty,pos,af,gd⟩::rest) Q g L :=
 L_run hw fun a w ha hst=>by
  unfold Oper.wp
  rw [h ⟨dst,op,ty,pos,af,gd⟩ a w n M ha]
  exact hk _ w (ha.put hd _) hst
theorem L_bool (hw:wantedE ops g gd=some true) (hd:dst.all (·<n)=true) {b:Bool} (h:PV P g op (.bool b)) (ht:b=true→HoldL P n w0 ops rest Q (putE g dst (.bool true)) L)
  (hf:b=false→HoldL P n w0 ops rest Q (putE g dst (.bool false)) L):HoldL P n w0 ops (⟨dst,op,ty,pos,af,gd⟩::rest) Q g L:=by
 cases b
 ·exact yG hw hd h (hf M)
 ·exact yG hw hd h (ht M)
theorem yF (hw:wantedE ops g gd=some true) (hd:dst.all (·<n)=true) {p:Prop} [Decidable p] (h:PV P g op (.bool (decide p))) (ht:p→HoldL P n w0 ops rest Q (putE g dst (.bool true)) L)
  (hf:¬ p→HoldL P n w0 ops rest Q (putE g dst (.bool false)) L):HoldL P n w0 ops (⟨dst,op,ty,pos,af,gd⟩::rest) Q g L :=
 L_bool hw hd h (fun e=>ht (of_decide_eq_true e)) (fun e=>hf (of_decide_eq_false e))
theorem L_yes (hw:wantedE ops g gd=some true) (hd:dst.all (·<n)=true) {p:Prop} [Decidable p] (h:PV P g op (.bool (decide p))) (hp:p) (hk:HoldL P n w0 ops rest Q (putE g dst (.bool true)) L) :
  HoldL P n w0 ops (⟨dst,op,ty,pos,af,gd⟩::rest) Q g L:=yF hw hd h (fun _=>hk) (fun h=>absurd hp h)
theorem L_no (hw:wantedE ops g gd=some true) (hd:dst.all (·<n)=true) {p:Prop} [Decidable p] (h:PV P g op (.bool (decide p))) (hp:¬ p) (hk:HoldL P n w0 ops rest Q (putE g dst (.bool false)) L) :
  HoldL P n w0 ops (⟨dst,op,ty,pos,af,gd⟩::rest) Q g L:=yF hw hd h (fun h=>absurd h hp) (fun _=>hk)
theorem L_load (hw:wantedE ops g gd=some true) (hd:dst.all (·<n)=true) {t:TypeId} {ad:Addr} {v:Value} (h:LV g op t ad) (hr:Loads P w0 L t ad v)
  (hk:HoldL P n w0 ops rest Q (putE g dst v) L):HoldL P n w0 ops (⟨dst,op,ty,pos,af,gd⟩::rest) Q g L :=
 L_run hw fun a w ha hst=>by
  unfold Oper.wp
  rw [h ⟨dst,op,ty,pos,af,gd⟩ a n M ha]
  simp only [Sem.run_bind,hr w hst,Result.andThen_ok,Sem.run_pure]
  exact hk _ w (ha.put hd _) hst
theorem L_eff (hw:wantedE ops g gd=some true) (hd:dst.all (·<n)=true) {post:Value→Hp→Prop} (h:EV P w0 L g op post)
  (hk:∀ v L',post v L'→HoldL P n w0 ops rest Q (putE g dst v) L'):HoldL P n w0 ops (⟨dst,op,ty,pos,af,gd⟩::rest) Q g L :=
 L_run hw fun a w ha hst=>by
  unfold Oper.wp
  obtain ⟨v,w',L',hr,hp,hst'⟩:=h ⟨dst,op,ty,pos,af,gd⟩ a w n rfl ha hst
  rcases hr with hr|⟨hr,rfl⟩<;>rw [hr]<;>exact hk _ L' hp _ w' (ha.put hd _) hst'
theorem zX (hw:wantedE ops g gd=some true) (hd:dst.all (·<n)=true) {k:FuncId} {args:List Value} (h:CV P g op k args) {pre R:Hp} {post:Value→Hp→Prop}
  (hs:Spec P w0 k args pre post) [hL:yJ pre L R] (hk:∀ v h,post v h→HoldL P n w0 ops rest Q (putE g dst v) (h+R)):HoldL P n w0 ops (⟨dst,op,ty,pos,af,gd⟩::rest) Q g L :=
 L_run hw fun a w ha hst=>by
  unfold Oper.wp
  rw [h ⟨dst,op,ty,pos,af,gd⟩ a w n M ha]
  rw [hL.out] at hst
  refine Calls.mono (hs w R hst) ?_
  rintro e w' ⟨v,h',rfl,hp,hst'⟩
  exact hk v h' hp _ w' (ha.put hd _) hst'
end
def bf (ops:Array Oper):Nat→Nat→Nat→Bool
 | 0,_,_=>false
 | f+1,k,j=>match ops[j]? with
  | none=>false
  | some o=>o.after.any fun e=>Region.binds .any e&&(e.on==k||bf ops f k e.on)
def Closed (ops:Array Oper) (listed:Array Bool):Prop:=∀ f k j,bf ops f k j=true→listed.getD j false=true→listed.getD k false=true
theorem bf_ready {ops:Array Oper} {listed:Array Bool} (hc:Closed ops listed) {j:Nat} (hj:j∈Region.ready .any ops listed) {f k:Nat} (h:bf ops f k j=true):listed.getD k false=true:=by
 obtain ⟨_,o,ho,hall⟩:=mem_ready.1 hj
 cases f with
 | zero=>simp [bf] at h
 | succ f =>
  simp only [bf,ho] at h
  rw [Array.any_eq_true'] at h
  obtain ⟨e,he,h⟩:=h
  simp only [Bool.and_eq_true,Bool.or_eq_true,beq_iff_eq] at h
  have hl:=hall e he h.1
  rcases h.2 with rfl|h2
  ·exact hl
  ·exact hc f k e.on h2 hl
theorem Closed.set {ops:Array Oper} {listed:Array Bool} (hc:Closed ops listed) {i:Nat} (hi:i∈Region.ready .any ops listed):Closed ops (listed.setIfInBounds i true):=by
 intro f k j h hj
 by_cases hij:i=j
 ·subst hij; exact getD_set_true (bf_ready hc hi h)
 ·rw [getD_set_ne false hij] at hj; exact getD_set_true (hc f k j h hj)
theorem Closed.start (ops:Array Oper) (n:Nat):Closed ops (Array.replicate n false):=by
 intro f k j _ hj
 simp [Array.getD_eq_getD_getElem?,Array.getElem?_replicate] at hj
 split at hj<;>simp at hj
abbrev Watch :=List (Nat × (World→Prop))
def Watch.past (ops:Array Oper) (i:Nat) (W:Watch):Watch:=W.filter fun p=>!bf ops ops.size p.1 i
def WG (P:Program) (ops:Array Oper) (Q:Exit→Act→World→Prop):Nat→Watch→Array Bool→Act→World→Prop
 | 0,_,listed,a,w=>Region.ready .any ops listed=[]∧Q .normal a w
 | fuel+1,W,listed,a,w=>(Region.ready .any ops listed=[]→Q .normal a w) ∧
  ∀ i∈Region.ready .any ops listed,wpOp P ops Q i (fun a' w'=>(∀ p∈W.past ops i,p.2 w')∧WG P ops Q fuel (W.past ops i) (listed.setIfInBounds i true) a' w') a w
theorem WG_any {P:Program} {ops:Array Oper} {Q:Exit→Act→World→Prop}:∀ (fuel:Nat) (W:Watch) (listed:Array Bool) (a:Act) (w:World),WG P ops Q fuel W listed a w→wpAny P .any ops Q fuel listed a w
 | 0,_,_,_,_,h=>h
 | fuel+1,_,_,_,_,h=>⟨h.1,fun i hi=>wpOp_mono (fun a' w' h'=>WG_any fuel _ _ a' w' h'.2) (h.2 i hi)⟩
theorem WG_sub {P:Program} {ops:Array Oper} {Q:Exit→Act→World→Prop}:∀ (fuel:Nat) (W W':Watch) (listed:Array Bool) (a:Act) (w:World),(∀ p∈W',p∈W∨∀ w,p.2 w)→WG P ops Q fuel W listed a w→WG P ops Q fuel W' listed a w
 | 0,_,_,_,_,_,_,h=>h
 | fuel+1,W,W',_,_,_,hs,h=>by
  have hs':∀ i,∀ p∈W'.past ops i,p∈W.past ops i∨∀ w,p.2 w:=fun i p hp=>by
   obtain ⟨h1,h2⟩:=List.mem_filter.1 hp
   exact (hs p h1).imp (fun h=>List.mem_filter.2 ⟨h,h2⟩) id
  exact ⟨h.1,fun i hi=>wpOp_mono (fun a' w' h'=>⟨fun p hp=>(hs' i p hp).elim (h'.1 p) (fun h=>h w'),WG_sub fuel _ _ _ a' w' (hs' i) h'.2⟩) (h.2 i hi)⟩
theorem WG_first {P:Program} {ops:Array Oper} {Q:Exit→Act→World→Prop} {S:World→Prop} {i:Nat} {oi:Oper} {v:Value} (hi:ops[i]?=some oi)
  (hsel:∀ (j:Nat) (o:Oper) cs b,ops[j]?=some o→o.op≠.select cs b) (hQ:∀ c a w,¬ Q (.panic c) a w) :
  ∀ (fuel:Nat) (W:Watch) (listed:Array Bool) (a:Act) (w:World),Closed ops listed →
   (∀ j oj,ops[j]?=some oj→j≠i→listed.getD j true=false→(∀ e∈oj.after,Region.binds .any e=true→e.on≠i)→oi.apart ops oj=true) →
   i∈Region.ready .any ops listed→YieldsIf P ops S oi v a→S w→(∀ p∈W,p.2 w) →
   WG P ops Q fuel ((i,S)::W) (listed.setIfInBounds i true) (a.put oi.dst v) w→WG P ops Q (fuel+1) W listed a w:=by
 have self:∀ (fuel:Nat) (W:Watch) (listed:Array Bool) (a:Act) (w:World),(∀ p∈W,p.2 w)→WG P ops Q fuel ((i,S)::W) (listed.setIfInBounds i true) (a.put oi.dst v) w →
   ((∀ p∈W.past ops i,p.2 w)∧WG P ops Q fuel (W.past ops i) (listed.setIfInBounds i true) (a.put oi.dst v) w):=fun fuel W listed a w hW H =>
  ⟨fun p hp=>hW p (List.mem_filter.1 hp).1,WG_sub fuel _ _ _ _ _ (fun p hp=>.inl (List.mem_cons_of_mem _ (List.mem_filter.1 hp).1)) H⟩
 intro fuel
 induction fuel with
 | zero =>
  intro W listed a w hc _ hr hy hS hW H
  refine ⟨fun h=>(by rw [h] at hr; cases hr),fun j hj=>?_⟩
  by_cases hji:j=i
  ·subst hji; exact hy.wpOp hi hS (self 0 W listed a w hW H)
  ·have:=ready_mono hj hji
   rw [H.1] at this
   cases this
 | succ fuel ih =>
  intro W listed a w hc hfree hr hy hS hW H
  refine ⟨fun h=>(by rw [h] at hr; cases hr),fun j hj=>?_⟩
  by_cases hji:j=i
  ·subst hji; exact hy.wpOp hi hS (self (fuel+1) W listed a w hW H)
  ·have h1:=H.2 j (ready_mono hj hji)
   obtain ⟨hjun,oj,hoj,hall⟩:=mem_ready.1 hj
   have hiun:listed.getD i false=false:=by
    have h0:=(mem_ready.1 hr).1
    rcases Nat.lt_or_ge i listed.size with h'|h'
    ·simp [h'] at h0 ⊢; exact h0
    ·simp [Array.getElem?_eq_none h']
   have hbf:bf ops ops.size i j=false:=by
    cases hb:bf ops ops.size i j with
    | false=>rfl
    | true=>rw [bf_ready hc hj hb] at hiun; cases hiun
   have hpast:Watch.past ops j ((i,S)::W)=(i,S)::Watch.past ops j W:=by simp [Watch.past,hbf]
   have hnot:∀ e∈oj.after,Region.binds .any e=true→e.on≠i:=fun e he hb heq=>by
    have h1:=hall e he hb
    rw [heq,hiun] at h1; cases h1
   have h2:=wpOp_putIf hoj (hfree j oj hoj hji hjun hnot) (fun cs b=>hsel i oi cs b hi) (fun cs b=>hsel j oj cs b hoj) (fun c a w h=>(hQ c _ w h).elim) hy h1
   have hfree':∀ k ok,ops[k]?=some ok→k≠i→(listed.setIfInBounds j true).getD k true=false →
     (∀ e∈ok.after,Region.binds .any e=true→e.on≠i)→oi.apart ops ok=true:=fun k ok hk hki hun hno=>by
    refine hfree k ok hk hki ?_ hno
    by_cases hjk:j=k
    ·subst hjk; exact hjun
    ·rw [getD_set_ne true hjk] at hun; exact hun
   refine wpOp_mono (fun a' w' h3=>?_) h2
   rw [hpast] at h3
   refine ⟨fun p hp=>h3.2.1 p (List.mem_cons_of_mem _ hp),?_⟩
   refine ih (W.past ops j) (listed.setIfInBounds j true) a' w' (hc.set hj) hfree' (ready_mono hr (Ne.symm hji)) h3.1 (h3.2.1 (i,S) (by simp)) (fun p hp=>h3.2.1 p (List.mem_cons_of_mem _ hp)) ?_
   rw [Array.setIfInBounds_comm _ _ hji]
   exact h3.2.2
def okOrder (ops:Array Oper) (eff:List Nat):Array Bool→List Nat→Bool
 | listed,[]=>Region.ready .any ops listed==[]
 | listed,i::s=>(if eff.contains i then Region.ready .any ops listed==[i] else (Region.ready .any ops listed).contains i&&Region.free .any ops listed i)&&okOrder ops eff (listed.setIfInBounds i true) s
abbrev Watched :=List (Nat × TypeId × Addr × Value)
def Watched.at (P:Program) (W:Watched):Watch:=W.map fun p=>(p.1,fun w=>(loadVar p.2.1 p.2.2.1).run P w=.ok p.2.2.2 w)
def Watched.past (ops:Array Oper) (i:Nat) (W:Watched):Watched:=W.filter fun p=>!bf ops ops.size p.1 i
theorem Watched.at_past (P:Program) (ops:Array Oper) (i:Nat) (W:Watched):(W.at P).past ops i=(W.past ops i).at P:=by
 simp only [Watch.past,Watched.at,Watched.past,List.filter_map]
 rfl
class NP (Q:Post):Prop where
 out:∀ c g L,¬ Q (.panic c) g L
instance (P:Program) (n:Nat) (w0:World) (y:Code) (Q:Post) [h:NP Q]:NP (seqQ P n w0 y Q):=⟨h.out⟩
instance (id:Nat) (Q:Post) [h:NP Q]:NP (blockQ id Q):=⟨h.out⟩
instance (I:Nat→Env→Hp→Prop) (m:Nat) (Q:Post) [h:NP Q]:NP (loopQ I m Q):=⟨h.out⟩
instance (P:Program) (w0:World) (rs:List ResultVar) (fr:Hp) (post:Value→Hp→Prop):NP (retQ P w0 rs fr post):=⟨fun _ _ _ h=>h⟩
instance (P:Program) (w0:World) (rs:List ResultVar) (fr:Hp) (post:Value→Hp→Prop):NP (retD P w0 rs fr post):=⟨fun _ _ _ h=>h⟩
def HoldW (P:Program) (n:Nat) (w0:World) (ops:Array Oper) (eff:List Nat) (W:Watched) (listed:Array Bool) (s:List Nat) (Q:Post) (g:Env) (L:Hp):Prop :=
 okOrder ops eff listed s=true→Closed ops listed→NP Q→Region.noSelect ops=true→(∀ p∈W,Loads P w0 L p.2.1 p.2.2.1 p.2.2.2) →
  ∀ a w,Fits n a g→St w0 w L→WG P ops (lift n w0 Q) s.length (W.at P) listed a w
section
variable {P:Program} {n:Nat} {w0:World} {Q:Post} {g:Env} {L:Hp} {ops:Array Oper} {eff:List Nat} {W:Watched} {listed:Array Bool} {s:List Nat}
theorem yB {id:Nat} [hq:NP Q] (eff:List Nat) (s:List Nat) (hm:P.follows .mixedOrders=true) (hl:s.length=ops.size) (hs:Region.noSelect ops=true)
  (hok:okOrder ops eff (Array.replicate ops.size false) s=true) (h:HoldW P n w0 ops eff [] (Array.replicate ops.size false) s Q g L):Hold P n w0 (.region id ops true) Q g L:=by
 intro a w ha hst
 refine wp_region_any hm (WG_any _ [] _ _ _ ?_)
 rw [← hl]
 have:=h hok (Closed.start ops _) hq hs (by simp) a { w with drawn:=w.drawn+1 } ha hst.drew
 rw [← hl] at this
 exact this
theorem yI (h:Q .normal g L):HoldW P n w0 ops eff W listed [] Q g L:=by
 intro hok _ _ _ _ a w ha hst
 simp only [okOrder,beq_iff_eq] at hok
 exact ⟨hok,g,L,h,ha,hst⟩
theorem lift_np [hq:NP Q] (c:List PanicEntry) (a:Act) (w:World):¬ lift n w0 Q (.panic c) a w:=fun ⟨_,_,h,_⟩=>hq.out _ _ _ h
theorem watch_holds {w:World} (hW:∀ p∈W,Loads P w0 L p.2.1 p.2.2.1 p.2.2.2) (hst:St w0 w L):∀ p∈W.at P,p.2 w:=by
 intro p hp
 obtain ⟨q,hq,rfl⟩:=List.mem_map.1 hp
 exact hW q hq w hst
theorem W_take {i:Nat} {o:Oper} {v:Value} (S:World→Prop) (W':Watched) (hi:ops[i]?=some o) (heff:eff.contains i=false) (hd:o.dst.all (·<n)=true)
  (hW':∀ p∈(i,S)::Watched.at P W,p∈Watched.at P W'∨∀ w,p.2 w) (hS:∀ w,St w0 w L→S w) (hlW:(∀ p∈W,Loads P w0 L p.2.1 p.2.2.1 p.2.2.2)→∀ p∈W',Loads P w0 L p.2.1 p.2.2.1 p.2.2.2)
  (hy:∀ a,Fits n a g→YieldsIf P ops S o v a)
  (hk:HoldW P n w0 ops eff W' (listed.setIfInBounds i true) s Q (putE g o.dst v) L):HoldW P n w0 ops eff W listed (i::s) Q g L:=by
 intro hok hc hq hsel hW a w ha hst
 simp only [okOrder,heff,Bool.and_eq_true,Bool.false_eq_true,if_false] at hok
 obtain ⟨⟨h1,h2⟩,h3⟩:=hok
 have hr:i∈Region.ready .any ops listed:=by simpa using h1
 have H:=hk h3 (hc.set hr) hq hsel (hlW hW) (a.put o.dst v) w (ha.put hd v) hst
 exact WG_first hi (Region.noSelect_spec hsel) (fun c a w=>lift_np c a w) s.length (W.at P) listed a w hc
  (fun j oj hj hne hun hno=>Region.free_spec hi h2 j oj hj hne hun hno) hr (hy a ha) (hS w hst) (watch_holds hW hst) (WG_sub _ _ _ _ _ _ hW' H)
theorem W_skip {i:Nat} {dst:Option Nat} {op:Op} {ty:TypeId} {pos:String} {af:Array Edge} {gd:Option (Nat × Bool)} (hi:ops[i]?=some ⟨dst,op,ty,pos,af,gd⟩) (heff:eff.contains i=false) (hw:wantedE ops g gd=some false) (hd:dst.all (·<n)=true)
  (hk:HoldW P n w0 ops eff W (listed.setIfInBounds i true) s Q (putE g dst undef) L):HoldW P n w0 ops eff W listed (i::s) Q g L :=
 W_take (fun _=>True) W hi heff hd (fun p hp=>by rcases List.mem_cons.1 hp with rfl|hp; exact .inr fun _=>trivial; exact .inl hp) (fun _ _=>trivial) id (fun a ha=>.inr ⟨wanted_of (o:=⟨dst,op,ty,pos,af,gd⟩) ha hw,rfl⟩) hk
theorem yD {i:Nat} {dst:Option Nat} {op:Op} {ty:TypeId} {pos:String} {af:Array Edge} {gd:Option (Nat × Bool)} (hi:ops[i]?=some ⟨dst,op,ty,pos,af,gd⟩) (heff:eff.contains i=false) (hw:wantedE ops g gd=some true) (hd:dst.all (·<n)=true) {v:Value} (h:PV P g op v)
  (hk:HoldW P n w0 ops eff W (listed.setIfInBounds i true) s Q (putE g dst v) L):HoldW P n w0 ops eff W listed (i::s) Q g L :=
 W_take (fun _=>True) W hi heff hd (fun p hp=>by rcases List.mem_cons.1 hp with rfl|hp; exact .inr fun _=>trivial; exact .inl hp) (fun _ _=>trivial) id
  (fun a ha=>.inl ⟨wanted_of (o:=⟨dst,op,ty,pos,af,gd⟩) ha hw,fun w _=>h ⟨dst,op,ty,pos,af,gd⟩ a w n M ha⟩) hk
theorem W_bool {i:Nat} {dst:Option Nat} {op:Op} {ty:TypeId} {pos:String} {af:Array Edge} {gd:Option (Nat × Bool)} (hi:ops[i]?=some ⟨dst,op,ty,pos,af,gd⟩) (heff:eff.contains i=false) (hw:wantedE ops g gd=some true) (hd:dst.all (·<n)=true) {b:Bool} (h:PV P g op (.bool b))
  (ht:b=true→HoldW P n w0 ops eff W (listed.setIfInBounds i true) s Q (putE g dst (.bool true)) L)
  (hf:b=false→HoldW P n w0 ops eff W (listed.setIfInBounds i true) s Q (putE g dst (.bool false)) L):HoldW P n w0 ops eff W listed (i::s) Q g L:=by
 cases b
 ·exact yD hi heff hw hd h (hf M)
 ·exact yD hi heff hw hd h (ht M)
theorem W_dec {i:Nat} {dst:Option Nat} {op:Op} {ty:TypeId} {pos:String} {af:Array Edge} {gd:Option (Nat × Bool)} (hi:ops[i]?=some ⟨dst,op,ty,pos,af,gd⟩) (heff:eff.contains i=false) (hw:wantedE ops g gd=some true) (hd:dst.all (·<n)=true) {p:Prop} [Decidable p] (h:PV P g op (.bool (decide p)))
  (ht:p→HoldW P n w0 ops eff W (listed.setIfInBounds i true) s Q (putE g dst (.bool true)) L)
  (hf:¬ p→HoldW P n w0 ops eff W (listed.setIfInBounds i true) s Q (putE g dst (.bool false)) L):HoldW P n w0 ops eff W listed (i::s) Q g L :=
 W_bool hi heff hw hd h (fun e=>ht (of_decide_eq_true e)) (fun e=>hf (of_decide_eq_false e))
theorem W_no {i:Nat} {dst:Option Nat} {op:Op} {ty:TypeId} {pos:String} {af:Array Edge} {gd:Option (Nat × Bool)} (hi:ops[i]?=some ⟨dst,op,ty,pos,af,gd⟩) (heff:eff.contains i=false) (hw:wantedE ops g gd=some true) (hd:dst.all (·<n)=true)
  {p:Prop} [Decidable p] (h:PV P g op (.bool (decide p))) (hp:¬ p) (hk:HoldW P n w0 ops eff W (listed.setIfInBounds i true) s Q (putE g dst (.bool false)) L):HoldW P n w0 ops eff W listed (i::s) Q g L :=
 W_dec hi heff hw hd h (fun h=>absurd h hp) (fun _=>hk)
theorem W_load {i:Nat} {dst:Option Nat} {op:Op} {ty:TypeId} {pos:String} {af:Array Edge} {gd:Option (Nat × Bool)} (hi:ops[i]?=some ⟨dst,op,ty,pos,af,gd⟩) (heff:eff.contains i=false) (hw:wantedE ops g gd=some true) (hd:dst.all (·<n)=true) {t:TypeId} {ad:Addr} {v:Value} (h:LV g op t ad)
  (hr:Loads P w0 L t ad v) (hk:HoldW P n w0 ops eff ((i,t,ad,v)::W) (listed.setIfInBounds i true) s Q (putE g dst v) L):HoldW P n w0 ops eff W listed (i::s) Q g L :=
 W_take (fun w=>(loadVar t ad).run P w=.ok v w) ((i,t,ad,v)::W) hi heff hd (fun p hp=>.inl hp) (fun w hst=>hr w hst)
  (fun hW p hp=>by rcases List.mem_cons.1 hp with rfl|hp; exact hr; exact hW p hp)
  (fun a ha=>.inl ⟨wanted_of (o:=⟨dst,op,ty,pos,af,gd⟩) ha hw,fun w hS=>by rw [h ⟨dst,op,ty,pos,af,gd⟩ a n M ha]; simp only [Sem.run_bind,hS,Result.andThen_ok,Sem.run_pure]⟩) hk
inductive Kept (ops:Array Oper) (i:Nat):Watched→Watched→Prop
 | nil:Kept ops i [] []
 | keep {p:Nat × TypeId × Addr × Value} {W W':Watched}:Kept ops i W W'→Kept ops i (p::W) (p::W')
 | drop {p:Nat × TypeId × Addr × Value} {W W':Watched}:bf ops ops.size p.1 i=true→Kept ops i W W'→Kept ops i (p::W) W'
theorem Kept.all {i:Nat}:∀ (W:Watched),Kept ops i W W
 | []=>.nil
 | _::W=>.keep (Kept.all W)
theorem Kept.sub {i:Nat} {W W':Watched} (h:Kept ops i W W'):∀ p∈W.past ops i,p∈W':=by
 induction h with
 | nil=>intro p hp; cases hp
 | keep h ih =>
  intro p hp
  obtain ⟨h1,h2⟩:=List.mem_filter.1 hp
  rcases List.mem_cons.1 h1 with rfl|h1
  ·simp
  ·exact List.mem_cons_of_mem _ (ih p (List.mem_filter.2 ⟨h1,h2⟩))
 | drop hb h ih =>
  intro p hp
  obtain ⟨h1,h2⟩:=List.mem_filter.1 hp
  rcases List.mem_cons.1 h1 with rfl|h1
  ·simp [hb] at h2
  ·exact ih p (List.mem_filter.2 ⟨h1,h2⟩)
theorem Kept.at {i:Nat} {W W':Watched} (h:Kept ops i W W'):∀ p∈(W.at P).past ops i,p∈W'.at P∨∀ w,p.2 w:=by
 intro p hp
 rw [Watched.at_past] at hp
 obtain ⟨q,hq,rfl⟩:=List.mem_map.1 hp
 exact .inl (List.mem_map.2 ⟨q,h.sub q hq,rfl⟩)
def AllLoads (P:Program) (w0:World) (L:Hp):Watched→Prop
 | []=>True
 | p::W=>Loads P w0 L p.2.1 p.2.2.1 p.2.2.2∧AllLoads P w0 L W
theorem AllLoads.all {W:Watched} (h:AllLoads P w0 L W):∀ p∈W,Loads P w0 L p.2.1 p.2.2.1 p.2.2.2:=by
 induction W with
 | nil=>intro p hp; cases hp
 | cons q W ih =>
  intro p hp
  rcases List.mem_cons.1 hp with rfl|hp
  ·exact h.1
  ·exact ih h.2 p hp
theorem W_eff {i:Nat} {dst:Option Nat} {op:Op} {ty:TypeId} {pos:String} {af:Array Edge} {gd:Option (Nat × Bool)} (hi:ops[i]?=some ⟨dst,op,ty,pos,af,gd⟩) (heff:eff.contains i=true) (hw:wantedE ops g gd=some true) (hd:dst.all (·<n)=true) {post:Value→Hp→Prop} (h:EV P w0 L g op post)
  {W':Watched} (hW':Kept ops i W W')
  (hk:∀ v L',post v L'→AllLoads P w0 L' W'∧HoldW P n w0 ops eff W' (listed.setIfInBounds i true) s Q (putE g dst v) L'):HoldW P n w0 ops eff W listed (i::s) Q g L:=by
 intro hok hc hq hsel hW a w ha hst
 simp only [okOrder,heff,Bool.and_eq_true,if_true,beq_iff_eq] at hok
 obtain ⟨h1,h3⟩:=hok
 have hr:i∈Region.ready .any ops listed:=by rw [h1]; simp
 refine ⟨fun e=>(by rw [e] at h1; cases h1),fun j hj=>?_⟩
 rw [h1,List.mem_singleton] at hj
 subst hj
 have key:∀ v w' L',post v L'→St w0 w' L'→(∀ p∈(W.at P).past ops j,p.2 w')∧WG P ops (lift n w0 Q) s.length ((W.at P).past ops j) (listed.setIfInBounds j true) (a.put dst v) w':=by
  intro v w' L' hp hst'
  obtain ⟨k1,k2⟩:=hk v L' hp
  have hh:=watch_holds k1.all hst'
  exact ⟨fun p hp=>(hW'.at p hp).elim (hh p) (fun h=>h w'),WG_sub _ _ _ _ _ _ hW'.at (k2 h3 (hc.set hr) hq hsel k1.all _ w' (ha.put hd v) hst')⟩
 unfold wpOp
 simp only [hi,wanted_of (o:=⟨dst,op,ty,pos,af,gd⟩) ha hw,if_true]
 left
 unfold Oper.wp
 obtain ⟨v,w',L',hrun,hp,hst'⟩:=h ⟨dst,op,ty,pos,af,gd⟩ a w n rfl ha hst
 rcases hrun with hrun|⟨hrun,rfl⟩<;>rw [hrun]<;>exact key _ w' L' hp hst'
theorem W_call {i:Nat} {dst:Option Nat} {op:Op} {ty:TypeId} {pos:String} {af:Array Edge} {gd:Option (Nat × Bool)} (hi:ops[i]?=some ⟨dst,op,ty,pos,af,gd⟩) (heff:eff.contains i=true) (hw:wantedE ops g gd=some true) (hd:dst.all (·<n)=true) {k:FuncId} {args:List Value} (h:CV P g op k args)
  {pre R:Hp} {post:Value→Hp→Prop} (hs:Spec P w0 k args pre post) [hL:yJ pre L R] {W':Watched} (hW':Kept ops i W W')
  (hk:∀ v h,post v h→AllLoads P w0 (h+R) W'∧HoldW P n w0 ops eff W' (listed.setIfInBounds i true) s Q (putE g dst v) (h+R)):HoldW P n w0 ops eff W listed (i::s) Q g L:=by
 intro hok hc hq hsel hW a w ha hst
 simp only [okOrder,heff,Bool.and_eq_true,if_true,beq_iff_eq] at hok
 obtain ⟨h1,h3⟩:=hok
 have hr:i∈Region.ready .any ops listed:=by rw [h1]; simp
 refine ⟨fun e=>(by rw [e] at h1; cases h1),fun j hj=>?_⟩
 rw [h1,List.mem_singleton] at hj
 subst hj
 unfold wpOp
 simp only [hi,wanted_of (o:=⟨dst,op,ty,pos,af,gd⟩) ha hw,if_true]
 left
 unfold Oper.wp
 rw [h ⟨dst,op,ty,pos,af,gd⟩ a w n M ha]
 rw [hL.out] at hst
 refine Calls.mono (hs w R hst) ?_
 rintro e w' ⟨v,h',rfl,hp,hst'⟩
 obtain ⟨k1,k2⟩:=hk v h' hp
 have hh:=watch_holds k1.all hst'
 exact ⟨fun p hp=>(hW'.at p hp).elim (hh p) (fun h=>h w'),WG_sub _ _ _ _ _ _ hW'.at (k2 h3 (hc.set hr) hq hsel k1.all _ w' (ha.put hd v) hst')⟩
theorem W_not {i:Nat} {dst:Option Nat} {op:Op} {ty:TypeId} {pos:String} {af:Array Edge} {gd:Option (Nat × Bool)} (hi:ops[i]?=some ⟨dst,op,ty,pos,af,gd⟩) (heff:eff.contains i=true) (hw:wantedE ops g gd=some false) (hd:dst.all (·<n)=true)
  (hk:HoldW P n w0 ops eff W (listed.setIfInBounds i true) s Q (putE g dst undef) L):HoldW P n w0 ops eff W listed (i::s) Q g L:=by
 intro hok hc hq hsel hW a w ha hst
 simp only [okOrder,heff,Bool.and_eq_true,if_true,beq_iff_eq] at hok
 obtain ⟨h1,h3⟩:=hok
 have hr:i∈Region.ready .any ops listed:=by rw [h1]; simp
 refine ⟨fun e=>(by rw [e] at h1; cases h1),fun j hj=>?_⟩
 rw [h1,List.mem_singleton] at hj
 subst hj
 unfold wpOp
 simp only [hi,wanted_of (o:=⟨dst,op,ty,pos,af,gd⟩) ha hw,Bool.false_eq_true,if_false]
 have hsub:∀ p∈(W.at P).past ops j,p∈W.at P∨∀ w,p.2 w:=fun p hp=>.inl (List.mem_filter.1 hp).1
 have hh:=watch_holds hW hst
 exact ⟨fun p hp=>hh p (List.mem_filter.1 hp).1,WG_sub _ _ _ _ _ _ hsub (hk h3 (hc.set hr) hq hsel hW _ w (ha.put hd _) hst)⟩
end
class HasPt (b:Nat) (L:Hp) (o:outParam Obj) (R:outParam Hp):Prop where
 out:L=pt b o+R
instance (b:Nat) (o:Obj):HasPt b (pt b o) o 0:=⟨(yA _).symm⟩
instance (priority:=1100) (b:Nat) (o:Obj) (R:Hp):HasPt b (pt b o+R) o R:=⟨rfl⟩
instance (priority:=900) (b:Nat) (X Y:Hp) (o:Obj) (R:Hp) [h:HasPt b X o R]:HasPt b (X+Y) o (R+Y):=⟨by rw [h.out,hadd_assoc]⟩
instance (priority:=800) (b:Nat) (X Y:Hp) (o:Obj) (R:Hp) [h:HasPt b Y o R]:HasPt b (X+Y) o (X+R):=⟨by rw [h.out,← hadd_assoc,hadd_comm X,hadd_assoc]⟩
def Reads (w0:World) (L:Hp) (ad:Addr) (v:Value):Prop:=∀ w,St w0 w L→w.cell? ad=some v
theorem St.at {w0 w:World} {L:Hp} {b:Nat} {o:Obj} {R:Hp} (h:St w0 w L) (hb:HasPt b L o R):w.heap[b]?=some o:=by
 have:=h.sat; rw [hb.out] at this; exact this.left.pt.2
theorem zS {w0:World} {L:Hp} {b off:Nat} {c:List Value} {e:TypeId} {fz:Nat × Nat} {R:Hp} [hb:HasPt b L (.cells c.toArray e fz) R] {v:Value} (hc:c[off]?=some v):Reads w0 L ⟨b,off,none⟩ v:=by
 intro w hst
 simp [World.cell?,hst.at hb,hc]
theorem reads_base {w0:World} {L:Hp} {ad:Addr} {v:Value} (h:w0.cell? ad=some v):Reads w0 L ad v:=by
 intro w hst
 rw [hst.below.cell (World.block_lt_of_cell? w0 ad h)]
 exact h
theorem Reads.frame {w0:World} {X L R:Hp} [hf:yJ X L R] {ad:Addr} {v:Value} (h:Reads w0 X ad v):Reads w0 L ad v:=by
 intro w hst
 refine h w ?_
 rw [hf.out] at hst
 exact hst.left
theorem zG {P:Program} {w0:World} {L:Hp} {t:TypeId} {d:TypeDesc} [hu:Und P t d] (hd:notAgg d=true) {ad:Addr} {v:Value} (hr:Reads w0 L ad v):Loads P w0 L t ad v:=by
 intro w hst
 have h1:=hr w hst
 have h2:=hu.out
 cases d<;>simp_all [loadVar,isAgg,run_underlying h2,notAgg,run_load]
theorem loads_agg {P:Program} {w0:World} {L:Hp} {t:TypeId} {d:TypeDesc} [hu:Und P t d] (hd:notAgg d=false) {sz by':Nat} {z:Value} [hi:Inf P t sz by' z] {ad:Addr} (vs:List Value) (hl:vs.length=sz)
  (hr:∀ j v,vs[j]?=some v→Reads w0 L (ad.add j) v):Loads P w0 L t ad (.agg vs.toArray):=by
 intro w hst
 have h2:=hu.out
 obtain ⟨i,h3,h4,_⟩:=hi.out
 have h5:=run_loadCells_list (P:=P) w ad vs (fun j v hv=>hr j v hv w hst)
 rw [hl,← h4] at h5
 cases d<;>simp_all [loadVar,isAgg,run_underlying h2,notAgg,sizeOf,typeInfo]
theorem loads_aggR {P:Program} {w0:World} {L:Hp} {t:TypeId} {d:TypeDesc} [hu:Und P t d] (hd:notAgg d=false) {sz by':Nat} {z:Value} [hi:Inf P t sz by' z] {b off:Nat} (vs:List Value) (hl:vs.length=sz)
  (hr:∀ j v,vs[j]?=some v→Reads w0 L ⟨b,off+j,none⟩ v):Loads P w0 L t ⟨b,off,none⟩ (.agg vs.toArray) :=
 loads_agg hd vs hl fun j v hv=>by
  have hadd:(⟨b,off,none⟩:Addr).add j=⟨b,off+j,none⟩:=by unfold Addr.add; split<;>simp_all
  rw [hadd]; exact hr j v hv
section
variable {P:Program} {w0:World} {L:Hp} {g:Env}
theorem pv_move {x:Operand} {v:Value} (hx:ev g x=some v):PV P g (.move x) v:=by
 intro o a w n ho ha; unfold execOp; simp only [ho,ha.ev hx,Sem.run_pure]
theorem pv_assign {x:Operand} {v:Value} (hx:ev g x=some v):PV P g (.assign x) v:=by
 intro o a w n ho ha; unfold execOp; simp only [ho,ha.ev hx,Sem.run_pure]
theorem pv_pick_t {c x y:Operand} {v:Value} (hc:ev g c=some (.bool true)) (hx:ev g x=some v):PV P g (.pick c x y) v:=by
 intro o a w n ho ha; unfold execOp; simp only [ho,ha.ev hc,ha.ev hx,asBool,pure_bind,Sem.run_pure,if_true]
theorem pv_pick_f {c x y:Operand} {v:Value} (hc:ev g c=some (.bool false)) (hy:ev g y=some v):PV P g (.pick c x y) v:=by
 intro o a w n ho ha; unfold execOp; simp only [ho,ha.ev hc,ha.ev hy,asBool,pure_bind,Sem.run_pure,Bool.false_eq_true,if_false]
theorem pv_nilCheck {x:Operand} {ad:Addr} (hx:ev g x=some (.pointer (some ad))):PV P g (.nilCheck x) (.pointer (some ad)):=by
 intro o a w n ho ha; unfold execOp; simp only [ho,ha.ev hx,Sem.run_pure]
theorem zZ {s:TypeId} {fs:Array Field} [hu:Und P s (.struct fs)] {x:Operand} {b off k:Nat} {nm tg pk:String} {ty:TypeId} {fo bo:Nat} {em:Bool} {sz by':Nat} {z:Value}
  (hx:ev g x=some (.pointer (some ⟨b,off,none⟩))) (hf:fs[k]?=some ⟨nm,ty,fo,em,tg,pk,bo⟩) [hi:Inf P ty sz by' z] (hsz:(sz==0)=false) :
  PV P g (.fieldAddr s x k) (.pointer (some ⟨b,off+fo,none⟩)):=by
 intro o a w n ho ha
 obtain ⟨i,h3,h4,_⟩:=hi.out
 have hne:¬ i.size=0:=by rw [h4]; simpa using hsz
 unfold execOp
 simp only [ho,ha.ev hx]
 have hadd:(⟨b,off,none⟩:Addr).add fo=⟨b,off+fo,none⟩:=by unfold Addr.add; split<;>simp_all
 simp [Instr.fieldAt,run_underlying hu.out,hf,Instr.sureAddr,fieldPlace,sizeOf,typeInfo,h3,hne,hadd]
theorem pv_indexAddr {t e:TypeId} [hu:Und P t (.slice e)] {sz by':Nat} {z:Value} [hi:Inf P e sz by' z] {x ix:Operand} {b off len cap:Nat} {k:IntKind} {i:Nat}
  (hx:ev g x=some (.slice (some ⟨b,off,none⟩) len cap)) (hix:ev g ix=some (.int k (i:Int))) (h1:i<len) :
  PV P g (.indexAddr t x ix) (.pointer (some ⟨b,off+i*sz,none⟩)):=by
 intro o a w n ho ha
 obtain ⟨j,h3,h4,_⟩:=hi.out
 unfold execOp
 simp only [ho,ha.ev hx,ha.ev hix]
 have hadd:(⟨b,off,none⟩:Addr).add (i*j.size)=⟨b,off+i*sz,none⟩:=by subst h4; unfold Addr.add; split<;>simp_all
 have hlt:(i:Int)<(len:Int):=by omega
 simp [Instr.indexAt,asIntOf,run_underlying hu.out,sizeOf,typeInfo,h3,hadd]
 intro h; omega
theorem pv_len {t e:TypeId} [hu:Und P t (.slice e)] {x:Operand} {ad:Option Addr} {len cap:Nat} (hx:ev g x=some (.slice ad len cap)) :
  PV P g (.call { callee:=.builtin .len,args:=#[x],argTypes:=#[t] }) (.int .i64 len):=by
 intro o a w n ho ha
 unfold execOp
 simp [ho,resolve,invoke,builtin,ha.ev hx,Builtin.len_,run_underlying hu.out,goInt]
theorem wrap_i64_in (n:Int) (h0:-9223372036854775808≤n) (h1:n≤9223372036854775807):IntKind.i64.wrap n=n:=IntWalk.i64_in n ⟨h0,h1⟩
theorem pv_not {x:Operand} {t:TypeId} {b:Bool} (hx:ev g x=some (.bool b)):PV P g (.unOp .not t x) (.bool (!b)):=by
 intro o a w n ho ha; unfold execOp; simp [ho,ha.ev hx,Op.unary]
theorem pv_extract {x:Operand} {i:Nat} {vs:Array Value} {v:Value} (hx:ev g x=some (.tuple vs)) (hv:vs[i]?=some v):PV P g (.extract x i) v:=by
 intro o a w n ho ha; unfold execOp; simp [ho,ha.ev hx,Instr.extract,hv]
theorem pv_makeFunc {k:Nat} {first:List Operand} {vs:List Value} (h:evs g first=some vs):PV P g (.makeFunc (.func k) first.toArray #[]) (.func (.func k) vs.toArray #[]):=by
 intro o a w n ho ha; unfold execOp
 simp [ho,Instr.makeFunc,ha.evs h]
def pureV (g:Env):Op→Option Value
 | .move x=>ev g x
 | .assign x=>ev g x
 | .nilCheck x=>match ev g x with
  | some (.pointer (some a))=>some (.pointer (some a))
  | _=>none
 | .pick c a b=>match ev g c with
  | some (.bool true)=>ev g a
  | some (.bool false)=>ev g b
  | _=>none
 | .unOp .not _ x=>match ev g x with
  | some (.bool b)=>some (.bool (!b))
  | _=>none
 | .extract x i=>match ev g x with
  | some (.tuple vs)=>vs.toList[i]?
  | _=>none
 | .makeFunc (.func k) first cap=>match cap.toList,evs g first.toList with
  | [],some vs=>some (.func (.func k) vs.toArray #[])
  | _,_=>none
 | _=>none
theorem pv_of {op:Op} {v:Value} (h:pureV g op=some v):PV P g op v:=by
 cases op with
 | move x=>exact pv_move h
 | assign x=>exact pv_assign h
 | nilCheck x =>
  simp only [pureV] at h
  split at h
  ·rename_i a e; simp only [Option.some.injEq] at h; subst h; exact pv_nilCheck e
  ·cases h
 | pick c a b =>
  simp only [pureV] at h
  split at h
  ·rename_i e; exact pv_pick_t e h
  ·rename_i e; exact pv_pick_f e h
  ·cases h
 | unOp u t x =>
  cases u<;>simp only [pureV] at h<;>try cases h
  split at h
  ·rename_i b e; simp only [Option.some.injEq] at h; subst h; exact pv_not e
  ·cases h
 | extract x i =>
  simp only [pureV] at h
  split at h
  ·rename_i vs e; exact pv_extract e (by simpa using h)
  ·cases h
 | makeFunc fn first cap =>
  cases fn<;>simp only [pureV] at h<;>try cases h
  split at h
  ·rename_i vs e1 e2
   simp only [Option.some.injEq] at h; subst h
   have hc:cap=#[]:=by apply Array.ext'; simpa using e1
   subst hc
   have:=pv_makeFunc (P:=P) (g:=g) (k:=‹_›) e2
   simpa using this
  ·cases h
 | _=>simp [pureV] at h
class Plc (P:Program) (t:TypeId) (pl:outParam (List (Nat × Nat))):Prop where
 out:∃ fs,P.underlying t=some (.struct fs)∧∀ w,(fs.mapM fun f=>(do pure (f.offset,← sizeOf f.type):Sem (Nat × Nat))).run P w=.ok pl.toArray w
def spliceL :Nat→List Value→List Value→List Value
 | _,[],cs=>cs
 | 0,x::v,_::cs=>x::spliceL 0 v cs
 | n+1,v,c::cs=>c::spliceL n v cs
 | _,_,[]=>[]
theorem splice_nil (n:Nat) (cs:List Value):spliceL n [] cs=cs:=by cases n<;>cases cs<;>rfl
theorem splice_set :∀ (n:Nat) (x:Value) (v cs:List Value),spliceL n (x::v) cs=spliceL (n+1) v (cs.set n x)
 | 0,x,v,[]=>by cases v<;>rfl
 | 0,x,v,c::cs=>by cases v<;>first|rfl|(show x::spliceL 0 [] cs=x::cs; rw [splice_nil])
 | n+1,x,v,[]=>by cases v<;>rfl
 | n+1,x,v,c::cs=>by
  show c::spliceL n (x::v) cs=_
  rw [splice_set n x v cs]
  cases v with
  | nil=>rw [splice_nil,splice_nil]; rfl
  | cons y v=>rfl
def fillL (pl:Nat→Option (Nat × Nat)):List Value→List (Nat × Value)→Option (List Value)
 | cells,[]=>some cells
 | cells,(i,v)::rest=>match pl i with
  | none=>none
  | some (off,size)=>if (v.cells.size==size&&decide (off+v.cells.size≤cells.length))=true then fillL pl (spliceL off v.cells.toList cells) rest else none
theorem foldl_splice :∀ (v:List Value) (off k:Nat) (cs:List Value),(v.zipIdx k).foldl (fun (cs:Array Value) (p:Value × Nat)=>cs.setIfInBounds (off+p.2) p.1) cs.toArray=(spliceL (off+k) v cs).toArray
 | [],off,k,cs=>by simp [splice_nil]
 | x::v,off,k,cs=>by
  simp only [List.zipIdx_cons,List.foldl_cons,List.setIfInBounds_toArray]
  rw [foldl_splice v off (k+1) (cs.set (off+k) x),splice_set]
  rfl
theorem fill_eq (pl:Nat→Option (Nat × Nat)):∀ (parts:List (Nat × Value)) (cells out:List Value),fillL pl cells parts=some out→Instr.fill pl cells.toArray parts=some out.toArray
 | [],cells,out,h=>by simp only [fillL,Option.some.injEq] at h; subst h; rfl
 | (i,v)::rest,cells,out,h=>by
  simp only [fillL] at h
  unfold Instr.fill
  cases hp:pl i with
  | none=>simp [hp] at h
  | some p =>
   obtain ⟨off,size⟩:=p
   simp only [hp] at h ⊢
   split at h
   ·rename_i hc
    simp only [Bool.and_eq_true,beq_iff_eq,decide_eq_true_eq] at hc
    rw [if_neg (by simp [hc.1]; have:=hc.2; omega)]
    have e:=foldl_splice v.cells.toList off 0 cells
    have e2:(v.cells.zipIdx.foldl (fun (cs:Array Value) (p:Value × Nat)=>cs.setIfInBounds (off+p.2) p.1) cells.toArray)=(spliceL off v.cells.toList cells).toArray:=by
     rw [← Array.foldl_toList,Array.toList_zipIdx]; exact e
    rw [show (Array.foldl (fun cs x=>match x with|(c,j)=>cs.setIfInBounds (off+j) c) cells.toArray v.cells.zipIdx)=(spliceL off v.cells.toList cells).toArray from e2]
    exact fill_eq pl rest _ out h
   ·cases h
theorem zeros_eq (z:Array Value) (len sz:Nat) (hz:z.size=sz):(Array.range (len*sz)).map (z[· % z.size]!)=(List.replicate len z.toList).flatten.toArray:=by
 apply Array.ext'
 apply List.ext_getElem?
 intro j
 subst hz
 have hl:(List.replicate len z.toList).flatten.length=len*z.size:=by simp
 by_cases hj:j<len*z.size
 ·have hz0:0<z.size:=by
   rcases Nat.eq_zero_or_pos z.size with h|h
   ·rw [h] at hj; omega
   ·exact h
  have hr:j % z.size<z.size:=Nat.mod_lt _ hz0
  have hq:j / z.size<len:=Nat.div_lt_of_lt_mul (by rw [Nat.mul_comm]; exact hj)
  have e:(List.replicate len z.toList).flatten[j]?=z.toList[j % z.size]?:=by
   have key:∀ (len:Nat) (j:Nat),j<len*z.size→(List.replicate len z.toList).flatten[j]?=z.toList[j % z.size]?:=by
    intro len
    induction len with
    | zero=>intro j hj; omega
    | succ len ih =>
     intro j hj
     simp only [List.replicate_succ,List.flatten_cons]
     by_cases h:j<z.size
     ·rw [List.getElem?_append_left (by simpa using h),Nat.mod_eq_of_lt h]
     ·rw [List.getElem?_append_right (by simp; omega)]
      rw [Nat.succ_mul] at hj
      simp only [Array.length_toList]
      rw [ih (j - z.size) (by omega),← Nat.mod_eq_sub_mod (by omega)]
   exact key len j hj
  rw [List.toList_toArray,e]
  simp [hj,hr]
 ·have h1:((Array.range (len*z.size)).map (z[· % z.size]!)).toList.length≤j:=by simp; omega
  have h2:(List.replicate len z.toList).flatten.toArray.toList.length≤j:=by rw [List.toList_toArray,hl]; omega
  rw [List.getElem?_eq_none h1,List.getElem?_eq_none h2]
theorem pv_build {t:TypeId} {pl:List (Nat × Nat)} [hpl:Plc P t pl] {sz by':Nat} {z:Value} [hi:Inf P t sz by' z] {parts:List (Nat × Operand)} {vs cells:List Value}
  (hp:evs g (parts.map (·.2))=some vs) (hfill:fillL (fun i=>pl[i]?) z.cells.toList ((parts.map (·.1)).zip vs)=some cells):PV P g (.build t parts.toArray) (.agg cells.toArray):=by
 intro o a w n ho ha
 obtain ⟨i,h1,h2,h3,h4⟩:=hi.out
 obtain ⟨fs,f1,f2⟩:=hpl.out
 have hparts:parts.map (fun (p:Nat × Operand)=>(p.1,a.eval p.2))=(parts.map (·.1)).zip vs:=by
  have:=ha.evs hp
  rw [← this]
  clear hp hfill this ho
  induction parts with
  | nil=>rfl
  | cons p l ih=>simp only [List.map_cons,List.zip_cons_cons,ih]
 have hf:=fill_eq _ _ _ _ hfill
 have hz:z.cells.toList.toArray=z.cells:=by simp
 rw [hz] at hf
 unfold execOp
 simp only [ho,Instr.build,zeroValue,typeInfo,Sem.run_bind,run_program,h1,h4,Sem.run_pure,Result.andThen_ok,run_underlying f1,List.map_toArray,hparts,f2,List.toList_toArray,List.getElem?_toArray,hf]
theorem yE {t:TypeId} {x:Operand} {ad:Addr} (hx:ev g x=some (.pointer (some ad))):LV g (.load t x) t ad:=by
 intro o a n ho ha; unfold execOp
 simp only [ho,ha.ev hx,Instr.loadAt,Instr.sureAddr,pure_bind]
section
variable {t ty:TypeId} {x y:Operand} {k:IntKind} {i j:Int}
theorem run_guard_int (op:BinOp) (w:World):(eqGuard op t x y (.int k i) (.int k j)).run P w=.ok () w:=by
 unfold eqGuard; split<;>simp
theorem pv_lss (hx:ev g x=some (.int k i)) (hy:ev g y=some (.int k j)):PV P g (.binOp .lss t x y ty) (.bool (decide (i<j))):=by
 intro o a w n ho ha
 unfold execOp
 simp only [ho,ha.ev hx,ha.ev hy,Sem.run_bind,run_guard_int,Result.andThen_ok]
 simp [binOp,Op.intCmp]
theorem pv_leq (hx:ev g x=some (.int k i)) (hy:ev g y=some (.int k j)):PV P g (.binOp .leq t x y ty) (.bool (decide (i≤j))):=by
 intro o a w n ho ha
 unfold execOp
 simp only [ho,ha.ev hx,ha.ev hy,Sem.run_bind,run_guard_int,Result.andThen_ok]
 simp [binOp,Op.intCmp]
theorem pv_gtr (hx:ev g x=some (.int k i)) (hy:ev g y=some (.int k j)):PV P g (.binOp .gtr t x y ty) (.bool (decide (j<i))):=by
 intro o a w n ho ha
 unfold execOp
 simp only [ho,ha.ev hx,ha.ev hy,Sem.run_bind,run_guard_int,Result.andThen_ok]
 simp [binOp,Op.intCmp]
theorem pv_geq (hx:ev g x=some (.int k i)) (hy:ev g y=some (.int k j)):PV P g (.binOp .geq t x y ty) (.bool (decide (j≤i))):=by
 intro o a w n ho ha
 unfold execOp
 simp only [ho,ha.ev hx,ha.ev hy,Sem.run_bind,run_guard_int,Result.andThen_ok]
 simp [binOp,Op.intCmp]
theorem pv_eql (hx:ev g x=some (.int k i)) (hy:ev g y=some (.int k j)):PV P g (.binOp .eql t x y ty) (.bool (decide (i=j))):=by
 intro o a w n ho ha
 unfold execOp
 simp only [ho,ha.ev hx,ha.ev hy,Sem.run_bind,run_guard_int,Result.andThen_ok]
 simp [binOp,Op.intCmp]; rfl
theorem pv_neq (hx:ev g x=some (.int k i)) (hy:ev g y=some (.int k j)):PV P g (.binOp .neq t x y ty) (.bool (decide (i≠j))):=by
 intro o a w n ho ha
 unfold execOp
 simp only [ho,ha.ev hx,ha.ev hy,Sem.run_bind,run_guard_int,Result.andThen_ok]
 simp [binOp,Op.intCmp,bne]; rfl
theorem pv_add_w (hx:ev g x=some (.int k i)) (hy:ev g y=some (.int k j)):PV P g (.binOp .add t x y ty) (.int k (k.wrap (i+j))):=by
 intro o a w n ho ha
 unfold execOp
 simp only [ho,ha.ev hx,ha.ev hy,Sem.run_bind,run_guard_int,Result.andThen_ok]
 simp [binOp,Op.intArith]
theorem pv_add (hx:ev g x=some (.int .i64 i)) (hy:ev g y=some (.int .i64 j)) (h0:-9223372036854775808≤i+j) (h1:i+j≤9223372036854775807):PV P g (.binOp .add t x y ty) (.int .i64 (i+j)):=by
 have h:=pv_add_w (P:=P) (t:=t) (ty:=ty) hx hy
 rwa [wrap_i64_in _ h0 h1] at h
theorem pv_sub_w (hx:ev g x=some (.int k i)) (hy:ev g y=some (.int k j)):PV P g (.binOp .sub t x y ty) (.int k (k.wrap (i - j))):=by
 intro o a w n ho ha
 unfold execOp
 simp only [ho,ha.ev hx,ha.ev hy,Sem.run_bind,run_guard_int,Result.andThen_ok]
 simp [binOp,Op.intArith]
theorem pv_sub (hx:ev g x=some (.int .i64 i)) (hy:ev g y=some (.int .i64 j)) (h0:-9223372036854775808≤i - j) (h1:i - j≤9223372036854775807):PV P g (.binOp .sub t x y ty) (.int .i64 (i - j)):=by
 have h:=pv_sub_w (P:=P) (t:=t) (ty:=ty) hx hy
 rwa [wrap_i64_in _ h0 h1] at h
theorem pv_mul_w (hx:ev g x=some (.int k i)) (hy:ev g y=some (.int k j)):PV P g (.binOp .mul t x y ty) (.int k (k.wrap (i*j))):=by
 intro o a w n ho ha
 unfold execOp
 simp only [ho,ha.ev hx,ha.ev hy,Sem.run_bind,run_guard_int,Result.andThen_ok]
 simp [binOp,Op.intArith]
theorem pv_mul (hx:ev g x=some (.int .i64 i)) (hy:ev g y=some (.int .i64 j)) (h0:-9223372036854775808≤i*j) (h1:i*j≤9223372036854775807):PV P g (.binOp .mul t x y ty) (.int .i64 (i*j)):=by
 have h:=pv_mul_w (P:=P) (t:=t) (ty:=ty) hx hy
 rwa [wrap_i64_in _ h0 h1] at h
theorem pv_rem (hx:ev g x=some (.int k i)) (hy:ev g y=some (.int k j)) (h:j≠0):PV P g (.binOp .rem t x y ty) (.int k (i.tmod j)):=by
 intro o a w n ho ha
 unfold execOp
 simp only [ho,ha.ev hx,ha.ev hy,Sem.run_bind,run_guard_int,Result.andThen_ok]
 simp [binOp,Op.intDiv,h]
theorem pv_quo (hx:ev g x=some (.int k i)) (hy:ev g y=some (.int k j)) (h:j≠0):PV P g (.binOp .quo t x y ty) (.int k (k.wrap (i.tdiv j))):=by
 intro o a w n ho ha
 unfold execOp
 simp only [ho,ha.ev hx,ha.ev hy,Sem.run_bind,run_guard_int,Result.andThen_ok]
 simp [binOp,Op.intDiv,h]
theorem pv_xor (hx:ev g x=some (.int k i)) (hy:ev g y=some (.int k j)):PV P g (.binOp .xor t x y ty) (.int k (k.wrap (BitVec.ofInt k.bits i ^^^ BitVec.ofInt k.bits j).toNat)):=by
 intro o a w n ho ha
 unfold execOp
 simp only [ho,ha.ev hx,ha.ev hy,Sem.run_bind,run_guard_int,Result.andThen_ok]
 simp [binOp,Op.intBits]
end
end
end Sl
end Go.Proofs.YtfahijncpmlhjaaGreat
namespace Go.Proofs.YtfahijncpmlhjaaGreat
open Go
namespace Sl
set_option maxRecDepth 100000
abbrev und1 :=@Und.mk Tryz.prog 1 _ Tryz.underlying1
attribute [instance] und1
instance inf1 :Inf Tryz.prog 1 1 8 Go.Value.nilFunc:=⟨_,(by kernel_rfl:Tryz.prog.info? 1=some (Tryz.types.getD 1 default)),by kernel_rfl,by kernel_rfl,by kernel_rfl⟩
abbrev und3 :=@Und.mk Tryz.prog 3 _ Tryz.underlying3
attribute [instance] und3
instance inf3 :Inf Tryz.prog 3 1 8 (Go.Value.int Go.IntKind.i64 0):=⟨_,(by kernel_rfl:Tryz.prog.info? 3=some (Tryz.types.getD 3 default)),by kernel_rfl,by kernel_rfl,by kernel_rfl⟩
abbrev und4 :=@Und.mk Tryz.prog 4 _ Tryz.underlying4
attribute [instance] und4
instance inf4 :Inf Tryz.prog 4 1 1 (Go.Value.bool false):=⟨_,(by kernel_rfl:Tryz.prog.info? 4=some (Tryz.types.getD 4 default)),by kernel_rfl,by kernel_rfl,by kernel_rfl⟩
abbrev und5 :=@Und.mk Tryz.prog 5 _ Tryz.underlying5
attribute [instance] und5
instance inf5 :Inf Tryz.prog 5 1 1 (Go.Value.int Go.IntKind.u8 0):=⟨_,(by kernel_rfl:Tryz.prog.info? 5=some (Tryz.types.getD 5 default)),by kernel_rfl,by kernel_rfl,by kernel_rfl⟩
abbrev und9 :=@Und.mk Tryz.prog 9 _ Tryz.underlying9
attribute [instance] und9
abbrev und22 :=@Und.mk Tryz.prog 22 _ Tryz.underlying22
attribute [instance] und22
instance inf22 :Inf Tryz.prog 22 1 24 (Go.Value.slice none 0 0):=⟨_,(by kernel_rfl:Tryz.prog.info? 22=some (Tryz.types.getD 22 default)),by kernel_rfl,by kernel_rfl,by kernel_rfl⟩
abbrev und24 :=@Und.mk Tryz.prog 24 _ Tryz.underlying24
attribute [instance] und24
abbrev und25 :=@Und.mk Tryz.prog 25 _ Tryz.underlying25
attribute [instance] und25
instance inf25 :Inf Tryz.prog 25 1 8 (Go.Value.int Go.IntKind.i64 0):=⟨_,(by kernel_rfl:Tryz.prog.info? 25=some (Tryz.types.getD 25 default)),by kernel_rfl,by kernel_rfl,by kernel_rfl⟩
abbrev und28 :=@Und.mk Tryz.prog 28 _ Tryz.underlying28
attribute [instance] und28
instance inf28 :Inf Tryz.prog 28 1 24 (Go.Value.slice none 0 0):=⟨_,(by kernel_rfl:Tryz.prog.info? 28=some (Tryz.types.getD 28 default)),by kernel_rfl,by kernel_rfl,by kernel_rfl⟩
abbrev und29 :=@Und.mk Tryz.prog 29 _ Tryz.underlying29
attribute [instance] und29
instance inf29 :Inf Tryz.prog 29 1 24 (Go.Value.slice none 0 0):=⟨_,(by kernel_rfl:Tryz.prog.info? 29=some (Tryz.types.getD 29 default)),by kernel_rfl,by kernel_rfl,by kernel_rfl⟩
abbrev und30 :=@Und.mk Tryz.prog 30 _ Tryz.underlying30
attribute [instance] und30
instance inf30 :Inf Tryz.prog 30 1 24 (Go.Value.slice none 0 0):=⟨_,(by kernel_rfl:Tryz.prog.info? 30=some (Tryz.types.getD 30 default)),by kernel_rfl,by kernel_rfl,by kernel_rfl⟩
abbrev und32 :=@Und.mk Tryz.prog 32 _ Tryz.underlying32
attribute [instance] und32
instance plc32 :Plc Tryz.prog 32 [(0,1),(1,1),(2,1),(3,1),(4,1),(5,1)]:=⟨_,Tryz.underlying32,fun _=>by kernel_rfl⟩
instance inf32 :Inf Tryz.prog 32 6 96 (Go.Value.agg #[Go.Value.int Go.IntKind.i64 0,Go.Value.int Go.IntKind.i64 0,Go.Value.int Go.IntKind.i64 0,Go.Value.slice none 0 0,Go.Value.slice none 0 0,Go.Value.slice none 0 0]):=⟨_,(by kernel_rfl:Tryz.prog.info? 32=some (Tryz.types.getD 32 default)),by kernel_rfl,by kernel_rfl,by kernel_rfl⟩
abbrev und34 :=@Und.mk Tryz.prog 34 _ Tryz.underlying34
attribute [instance] und34
instance inf34 :Inf Tryz.prog 34 1 24 (Go.Value.slice none 0 0):=⟨_,(by kernel_rfl:Tryz.prog.info? 34=some (Tryz.types.getD 34 default)),by kernel_rfl,by kernel_rfl,by kernel_rfl⟩
abbrev und35 :=@Und.mk Tryz.prog 35 _ Tryz.underlying35
attribute [instance] und35
instance inf35 :Inf Tryz.prog 35 1 24 (Go.Value.slice none 0 0):=⟨_,(by kernel_rfl:Tryz.prog.info? 35=some (Tryz.types.getD 35 default)),by kernel_rfl,by kernel_rfl,by kernel_rfl⟩
abbrev und37 :=@Und.mk Tryz.prog 37 _ Tryz.underlying37
attribute [instance] und37
instance plc37 :Plc Tryz.prog 37 [(0,1),(1,1),(2,1)]:=⟨_,Tryz.underlying37,fun _=>by kernel_rfl⟩
instance inf37 :Inf Tryz.prog 37 3 40 (Go.Value.agg #[Go.Value.int Go.IntKind.i64 0,Go.Value.int Go.IntKind.i64 0,Go.Value.slice none 0 0]):=⟨_,(by kernel_rfl:Tryz.prog.info? 37=some (Tryz.types.getD 37 default)),by kernel_rfl,by kernel_rfl,by kernel_rfl⟩
abbrev und41 :=@Und.mk Tryz.prog 41 _ Tryz.underlying41
attribute [instance] und41
instance plc41 :Plc Tryz.prog 41 [(0,1),(1,1),(2,1),(3,1),(4,1),(5,1),(6,1),(7,1),(8,1),(9,1),(10,1),(11,1),(12,1)]:=⟨_,Tryz.underlying41,fun _=>by kernel_rfl⟩
instance inf41 :Inf Tryz.prog 41 13 120 (Go.Value.agg #[Go.Value.int Go.IntKind.i64 0,Go.Value.int Go.IntKind.i64 0,Go.Value.int Go.IntKind.i64 0,Go.Value.int Go.IntKind.i64 0,Go.Value.int Go.IntKind.i64 0,Go.Value.int Go.IntKind.i64 0,Go.Value.int Go.IntKind.i64 0,Go.Value.int Go.IntKind.i64 0,Go.Value.int Go.IntKind.i64 0,Go.Value.int Go.IntKind.i64 0,Go.Value.int Go.IntKind.i64 0,Go.Value.int Go.IntKind.i64 0,Go.Value.slice none 0 0]):=⟨_,(by kernel_rfl:Tryz.prog.info? 41=some (Tryz.types.getD 41 default)),by kernel_rfl,by kernel_rfl,by kernel_rfl⟩
abbrev und44 :=@Und.mk Tryz.prog 44 _ Tryz.underlying44
attribute [instance] und44
instance plc44 :Plc Tryz.prog 44 [(0,1),(1,1)]:=⟨_,Tryz.underlying44,fun _=>by kernel_rfl⟩
instance inf44 :Inf Tryz.prog 44 2 32 (Go.Value.agg #[Go.Value.int Go.IntKind.i64 0,Go.Value.slice none 0 0]):=⟨_,(by kernel_rfl:Tryz.prog.info? 44=some (Tryz.types.getD 44 default)),by kernel_rfl,by kernel_rfl,by kernel_rfl⟩
abbrev und47 :=@Und.mk Tryz.prog 47 _ Tryz.underlying47
attribute [instance] und47
abbrev und52 :=@Und.mk Tryz.prog 52 _ Tryz.underlying52
attribute [instance] und52
instance plc52 :Plc Tryz.prog 52 [(0,1),(1,1),(2,1)]:=⟨_,Tryz.underlying52,fun _=>by kernel_rfl⟩
instance inf52 :Inf Tryz.prog 52 3 40 (Go.Value.agg #[Go.Value.int Go.IntKind.i64 0,Go.Value.int Go.IntKind.i64 0,Go.Value.slice none 0 0]):=⟨_,(by kernel_rfl:Tryz.prog.info? 52=some (Tryz.types.getD 52 default)),by kernel_rfl,by kernel_rfl,by kernel_rfl⟩
abbrev und53 :=@Und.mk Tryz.prog 53 _ Tryz.underlying53
attribute [instance] und53
instance inf53 :Inf Tryz.prog 53 1 24 (Go.Value.slice none 0 0):=⟨_,(by kernel_rfl:Tryz.prog.info? 53=some (Tryz.types.getD 53 default)),by kernel_rfl,by kernel_rfl,by kernel_rfl⟩
abbrev und55 :=@Und.mk Tryz.prog 55 _ Tryz.underlying55
attribute [instance] und55
instance plc55 :Plc Tryz.prog 55 [(0,1),(1,1),(2,1),(3,1),(4,1),(5,1),(6,1),(7,1),(8,1),(9,1),(10,1),(11,1),(12,1),(13,1),(14,1),(15,1),(16,1)]:=⟨_,Tryz.underlying55,fun _=>by kernel_rfl⟩
instance inf55 :Inf Tryz.prog 55 17 168 (Go.Value.agg #[Go.Value.int Go.IntKind.i64 0,Go.Value.int Go.IntKind.i64 0,Go.Value.int Go.IntKind.i64 0,Go.Value.int Go.IntKind.i64 0,Go.Value.int Go.IntKind.i64 0,Go.Value.int Go.IntKind.i64 0,Go.Value.int Go.IntKind.i64 0,Go.Value.int Go.IntKind.i64 0,Go.Value.int Go.IntKind.i64 0,Go.Value.int Go.IntKind.i64 0,Go.Value.int Go.IntKind.i64 0,Go.Value.int Go.IntKind.i64 0,Go.Value.int Go.IntKind.i64 0,Go.Value.int Go.IntKind.i64 0,Go.Value.bool false,Go.Value.slice none 0 0,Go.Value.slice none 0 0]):=⟨_,(by kernel_rfl:Tryz.prog.info? 55=some (Tryz.types.getD 55 default)),by kernel_rfl,by kernel_rfl,by kernel_rfl⟩
abbrev und57 :=@Und.mk Tryz.prog 57 _ Tryz.underlying57
attribute [instance] und57
instance inf57 :Inf Tryz.prog 57 34 336 (Go.Value.agg #[Go.Value.int Go.IntKind.i64 0,Go.Value.int Go.IntKind.i64 0,Go.Value.int Go.IntKind.i64 0,Go.Value.int Go.IntKind.i64 0,Go.Value.int Go.IntKind.i64 0,Go.Value.int Go.IntKind.i64 0,Go.Value.int Go.IntKind.i64 0,Go.Value.int Go.IntKind.i64 0,Go.Value.int Go.IntKind.i64 0,Go.Value.int Go.IntKind.i64 0,Go.Value.int Go.IntKind.i64 0,Go.Value.int Go.IntKind.i64 0,Go.Value.int Go.IntKind.i64 0,Go.Value.slice none 0 0,Go.Value.int Go.IntKind.i64 0,Go.Value.int Go.IntKind.i64 0,Go.Value.slice none 0 0,Go.Value.int Go.IntKind.i64 0,Go.Value.int Go.IntKind.i64 0,Go.Value.int Go.IntKind.i64 0,Go.Value.int Go.IntKind.i64 0,Go.Value.int Go.IntKind.i64 0,Go.Value.int Go.IntKind.i64 0,Go.Value.int Go.IntKind.i64 0,Go.Value.int Go.IntKind.i64 0,Go.Value.int Go.IntKind.i64 0,Go.Value.int Go.IntKind.i64 0,Go.Value.int Go.IntKind.i64 0,Go.Value.int Go.IntKind.i64 0,Go.Value.int Go.IntKind.i64 0,Go.Value.int Go.IntKind.i64 0,Go.Value.bool false,Go.Value.slice none 0 0,Go.Value.slice none 0 0]):=⟨_,(by kernel_rfl:Tryz.prog.info? 57=some (Tryz.types.getD 57 default)),by kernel_rfl,by kernel_rfl,by kernel_rfl⟩
abbrev und60 :=@Und.mk Tryz.prog 60 _ Tryz.underlying60
attribute [instance] und60
instance inf60 :Inf Tryz.prog 60 5 40 (Go.Value.agg #[Go.Value.int Go.IntKind.i64 0,Go.Value.int Go.IntKind.i64 0,Go.Value.int Go.IntKind.i64 0,Go.Value.int Go.IntKind.i64 0,Go.Value.int Go.IntKind.i64 0]):=⟨_,(by kernel_rfl:Tryz.prog.info? 60=some (Tryz.types.getD 60 default)),by kernel_rfl,by kernel_rfl,by kernel_rfl⟩
abbrev und61 :=@Und.mk Tryz.prog 61 _ Tryz.underlying61
attribute [instance] und61
instance inf61 :Inf Tryz.prog 61 1 24 (Go.Value.slice none 0 0):=⟨_,(by kernel_rfl:Tryz.prog.info? 61=some (Tryz.types.getD 61 default)),by kernel_rfl,by kernel_rfl,by kernel_rfl⟩
abbrev und63 :=@Und.mk Tryz.prog 63 _ Tryz.underlying63
attribute [instance] und63
instance plc63 :Plc Tryz.prog 63 [(0,1),(1,1),(2,1),(3,1),(4,1),(5,1),(6,1),(7,1),(8,1),(9,1),(10,1),(11,1),(12,1),(13,1),(14,1),(15,1),(16,1)]:=⟨_,Tryz.underlying63,fun _=>by kernel_rfl⟩
instance inf63 :Inf Tryz.prog 63 17 200 (Go.Value.agg #[Go.Value.int Go.IntKind.i64 0,Go.Value.int Go.IntKind.i64 0,Go.Value.int Go.IntKind.i64 0,Go.Value.int Go.IntKind.i64 0,Go.Value.int Go.IntKind.i64 0,Go.Value.int Go.IntKind.i64 0,Go.Value.int Go.IntKind.i64 0,Go.Value.int Go.IntKind.i64 0,Go.Value.int Go.IntKind.i64 0,Go.Value.int Go.IntKind.i64 0,Go.Value.int Go.IntKind.i64 0,Go.Value.int Go.IntKind.i64 0,Go.Value.int Go.IntKind.i64 0,Go.Value.slice none 0 0,Go.Value.slice none 0 0,Go.Value.slice none 0 0,Go.Value.slice none 0 0]):=⟨_,(by kernel_rfl:Tryz.prog.info? 63=some (Tryz.types.getD 63 default)),by kernel_rfl,by kernel_rfl,by kernel_rfl⟩
abbrev und64 :=@Und.mk Tryz.prog 64 _ Tryz.underlying64
attribute [instance] und64
instance inf64 :Inf Tryz.prog 64 85 1000 (Go.Value.agg ([Go.Value.int Go.IntKind.i64 0,Go.Value.int Go.IntKind.i64 0,Go.Value.int Go.IntKind.i64 0,Go.Value.int Go.IntKind.i64 0,Go.Value.int Go.IntKind.i64 0,Go.Value.int Go.IntKind.i64 0,Go.Value.int Go.IntKind.i64 0,Go.Value.int Go.IntKind.i64 0,Go.Value.int Go.IntKind.i64 0,Go.Value.int Go.IntKind.i64 0,Go.Value.int Go.IntKind.i64 0,Go.Value.int Go.IntKind.i64 0,Go.Value.int Go.IntKind.i64 0,Go.Value.slice none 0 0,Go.Value.slice none 0 0,Go.Value.slice none 0 0,Go.Value.slice none 0 0,Go.Value.int Go.IntKind.i64 0,Go.Value.int Go.IntKind.i64 0,Go.Value.int Go.IntKind.i64 0,Go.Value.int Go.IntKind.i64 0,Go.Value.int Go.IntKind.i64 0,Go.Value.int Go.IntKind.i64 0,Go.Value.int Go.IntKind.i64 0,Go.Value.int Go.IntKind.i64 0,Go.Value.int Go.IntKind.i64 0,Go.Value.int Go.IntKind.i64 0,Go.Value.int Go.IntKind.i64 0,Go.Value.int Go.IntKind.i64 0,Go.Value.int Go.IntKind.i64 0,Go.Value.slice none 0 0,Go.Value.slice none 0 0,Go.Value.slice none 0 0,Go.Value.slice none 0 0,Go.Value.int Go.IntKind.i64 0,Go.Value.int Go.IntKind.i64 0,Go.Value.int Go.IntKind.i64 0,Go.Value.int Go.IntKind.i64 0,Go.Value.int Go.IntKind.i64 0,Go.Value.int Go.IntKind.i64 0,Go.Value.int Go.IntKind.i64 0,Go.Value.int Go.IntKind.i64 0].append [Go.Value.int Go.IntKind.i64 0,Go.Value.int Go.IntKind.i64 0,Go.Value.int Go.IntKind.i64 0,Go.Value.int Go.IntKind.i64 0,Go.Value.int Go.IntKind.i64 0,Go.Value.slice none 0 0,Go.Value.slice none 0 0,Go.Value.slice none 0 0,Go.Value.slice none 0 0,Go.Value.int Go.IntKind.i64 0,Go.Value.int Go.IntKind.i64 0,Go.Value.int Go.IntKind.i64 0,Go.Value.int Go.IntKind.i64 0,Go.Value.int Go.IntKind.i64 0,Go.Value.int Go.IntKind.i64 0,Go.Value.int Go.IntKind.i64 0,Go.Value.int Go.IntKind.i64 0,Go.Value.int Go.IntKind.i64 0,Go.Value.int Go.IntKind.i64 0,Go.Value.int Go.IntKind.i64 0,Go.Value.int Go.IntKind.i64 0,Go.Value.int Go.IntKind.i64 0,Go.Value.slice none 0 0,Go.Value.slice none 0 0,Go.Value.slice none 0 0,Go.Value.slice none 0 0,Go.Value.int Go.IntKind.i64 0,Go.Value.int Go.IntKind.i64 0,Go.Value.int Go.IntKind.i64 0,Go.Value.int Go.IntKind.i64 0,Go.Value.int Go.IntKind.i64 0,Go.Value.int Go.IntKind.i64 0,Go.Value.int Go.IntKind.i64 0,Go.Value.int Go.IntKind.i64 0,Go.Value.int Go.IntKind.i64 0,Go.Value.int Go.IntKind.i64 0,Go.Value.int Go.IntKind.i64 0,Go.Value.int Go.IntKind.i64 0,Go.Value.int Go.IntKind.i64 0,Go.Value.slice none 0 0,Go.Value.slice none 0 0,Go.Value.slice none 0 0,Go.Value.slice none 0 0]).toArray):=⟨_,(by kernel_rfl:Tryz.prog.info? 64=some (Tryz.types.getD 64 default)),by kernel_rfl,by kernel_rfl,by kernel_rfl⟩
abbrev und76 :=@Und.mk Tryz.prog 76 _ Tryz.underlying76
attribute [instance] und76
instance inf76 :Inf Tryz.prog 76 1 8 Go.Value.nilFunc:=⟨_,(by kernel_rfl:Tryz.prog.info? 76=some (Tryz.types.getD 76 default)),by kernel_rfl,by kernel_rfl,by kernel_rfl⟩
abbrev und78 :=@Und.mk Tryz.prog 78 _ Tryz.underlying78
attribute [instance] und78
instance plc78 :Plc Tryz.prog 78 [(0,1),(1,1)]:=⟨_,Tryz.underlying78,fun _=>by kernel_rfl⟩
instance inf78 :Inf Tryz.prog 78 2 16 (Go.Value.agg #[Go.Value.int Go.IntKind.i64 0,Go.Value.int Go.IntKind.i64 0]):=⟨_,(by kernel_rfl:Tryz.prog.info? 78=some (Tryz.types.getD 78 default)),by kernel_rfl,by kernel_rfl,by kernel_rfl⟩
abbrev und80 :=@Und.mk Tryz.prog 80 _ Tryz.underlying80
attribute [instance] und80
instance plc80 :Plc Tryz.prog 80 [(0,1),(1,1),(2,1),(3,1)]:=⟨_,Tryz.underlying80,fun _=>by kernel_rfl⟩
instance inf80 :Inf Tryz.prog 80 4 32 (Go.Value.agg #[Go.Value.int Go.IntKind.i64 0,Go.Value.int Go.IntKind.i64 0,Go.Value.int Go.IntKind.i64 0,Go.Value.int Go.IntKind.i64 0]):=⟨_,(by kernel_rfl:Tryz.prog.info? 80=some (Tryz.types.getD 80 default)),by kernel_rfl,by kernel_rfl,by kernel_rfl⟩
abbrev und84 :=@Und.mk Tryz.prog 84 _ Tryz.underlying84
attribute [instance] und84
instance inf84 :Inf Tryz.prog 84 1 8 (Go.Value.map none):=⟨_,(by kernel_rfl:Tryz.prog.info? 84=some (Tryz.types.getD 84 default)),by kernel_rfl,by kernel_rfl,by kernel_rfl⟩
abbrev und86 :=@Und.mk Tryz.prog 86 _ Tryz.underlying86
attribute [instance] und86
instance plc86 :Plc Tryz.prog 86 [(0,1),(1,1),(2,1),(3,1),(4,1)]:=⟨_,Tryz.underlying86,fun _=>by kernel_rfl⟩
instance inf86 :Inf Tryz.prog 86 5 40 (Go.Value.agg #[Go.Value.int Go.IntKind.i64 0,Go.Value.int Go.IntKind.i64 0,Go.Value.int Go.IntKind.i64 0,Go.Value.int Go.IntKind.i64 0,Go.Value.int Go.IntKind.i64 0]):=⟨_,(by kernel_rfl:Tryz.prog.info? 86=some (Tryz.types.getD 86 default)),by kernel_rfl,by kernel_rfl,by kernel_rfl⟩
abbrev und88 :=@Und.mk Tryz.prog 88 _ Tryz.underlying88
attribute [instance] und88
instance plc88 :Plc Tryz.prog 88 [(0,1),(1,1),(2,5)]:=⟨_,Tryz.underlying88,fun _=>by kernel_rfl⟩
instance inf88 :Inf Tryz.prog 88 7 72 (Go.Value.agg #[Go.Value.slice none 0 0,Go.Value.int Go.IntKind.i64 0,Go.Value.int Go.IntKind.i64 0,Go.Value.int Go.IntKind.i64 0,Go.Value.int Go.IntKind.i64 0,Go.Value.int Go.IntKind.i64 0,Go.Value.int Go.IntKind.i64 0]):=⟨_,(by kernel_rfl:Tryz.prog.info? 88=some (Tryz.types.getD 88 default)),by kernel_rfl,by kernel_rfl,by kernel_rfl⟩
abbrev und90 :=@Und.mk Tryz.prog 90 _ Tryz.underlying90
attribute [instance] und90
instance inf90 :Inf Tryz.prog 90 1 24 (Go.Value.slice none 0 0):=⟨_,(by kernel_rfl:Tryz.prog.info? 90=some (Tryz.types.getD 90 default)),by kernel_rfl,by kernel_rfl,by kernel_rfl⟩
abbrev und91 :=@Und.mk Tryz.prog 91 _ Tryz.underlying91
attribute [instance] und91
instance inf91 :Inf Tryz.prog 91 1 24 (Go.Value.slice none 0 0):=⟨_,(by kernel_rfl:Tryz.prog.info? 91=some (Tryz.types.getD 91 default)),by kernel_rfl,by kernel_rfl,by kernel_rfl⟩
abbrev und92 :=@Und.mk Tryz.prog 92 _ Tryz.underlying92
attribute [instance] und92
instance inf92 :Inf Tryz.prog 92 1 8 (Go.Value.pointer none):=⟨_,(by kernel_rfl:Tryz.prog.info? 92=some (Tryz.types.getD 92 default)),by kernel_rfl,by kernel_rfl,by kernel_rfl⟩
abbrev und93 :=@Und.mk Tryz.prog 93 _ Tryz.underlying93
attribute [instance] und93
instance inf93 :Inf Tryz.prog 93 1 8 (Go.Value.pointer none):=⟨_,(by kernel_rfl:Tryz.prog.info? 93=some (Tryz.types.getD 93 default)),by kernel_rfl,by kernel_rfl,by kernel_rfl⟩
abbrev und95 :=@Und.mk Tryz.prog 95 _ Tryz.underlying95
attribute [instance] und95
instance plc95 :Plc Tryz.prog 95 [(0,6),(6,1),(7,1),(8,1),(9,1),(10,1),(11,7),(18,1),(19,1),(20,1),(21,1),(22,1),(23,1),(24,1),(25,1),(26,1),(27,1),(28,1),(29,1),(30,1),(31,1),(32,1),(33,1),(34,3),(37,1)]:=⟨_,Tryz.underlying95,fun _=>by kernel_rfl⟩
instance inf95 :Inf Tryz.prog 95 38 448 (Go.Value.agg #[Go.Value.int Go.IntKind.i64 0,Go.Value.int Go.IntKind.i64 0,Go.Value.int Go.IntKind.i64 0,Go.Value.slice none 0 0,Go.Value.slice none 0 0,Go.Value.slice none 0 0,Go.Value.int Go.IntKind.i64 0,Go.Value.int Go.IntKind.i64 0,Go.Value.int Go.IntKind.i64 0,Go.Value.int Go.IntKind.i64 0,Go.Value.int Go.IntKind.i64 0,Go.Value.slice none 0 0,Go.Value.int Go.IntKind.i64 0,Go.Value.int Go.IntKind.i64 0,Go.Value.int Go.IntKind.i64 0,Go.Value.int Go.IntKind.i64 0,Go.Value.int Go.IntKind.i64 0,Go.Value.int Go.IntKind.i64 0,Go.Value.bool false,Go.Value.slice none 0 0,Go.Value.map none,Go.Value.slice none 0 0,Go.Value.int Go.IntKind.i64 0,Go.Value.slice none 0 0,Go.Value.pointer none,Go.Value.bool false,Go.Value.int Go.IntKind.i64 0,Go.Value.int Go.IntKind.i64 0,Go.Value.pointer none,Go.Value.nilFunc,Go.Value.pointer none,Go.Value.int Go.IntKind.i64 0,Go.Value.int Go.IntKind.i64 0,Go.Value.slice none 0 0,Go.Value.int Go.IntKind.i64 0,Go.Value.int Go.IntKind.i64 0,Go.Value.slice none 0 0,Go.Value.bool false]):=⟨_,(by kernel_rfl:Tryz.prog.info? 95=some (Tryz.types.getD 95 default)),by kernel_rfl,by kernel_rfl,by kernel_rfl⟩
abbrev und97 :=@Und.mk Tryz.prog 97 _ Tryz.underlying97
attribute [instance] und97
abbrev und105 :=@Und.mk Tryz.prog 105 _ Tryz.underlying105
attribute [instance] und105
instance inf105 :Inf Tryz.prog 105 1 8 (Go.Value.pointer none):=⟨_,(by kernel_rfl:Tryz.prog.info? 105=some (Tryz.types.getD 105 default)),by kernel_rfl,by kernel_rfl,by kernel_rfl⟩
abbrev und115 :=@Und.mk Tryz.prog 115 _ Tryz.underlying115
attribute [instance] und115
instance inf115 :Inf Tryz.prog 115 1 24 (Go.Value.slice none 0 0):=⟨_,(by kernel_rfl:Tryz.prog.info? 115=some (Tryz.types.getD 115 default)),by kernel_rfl,by kernel_rfl,by kernel_rfl⟩
abbrev und117 :=@Und.mk Tryz.prog 117 _ Tryz.underlying117
attribute [instance] und117
instance plc117 :Plc Tryz.prog 117 [(0,1),(1,1),(2,1),(3,1),(4,1),(5,1),(6,2)]:=⟨_,Tryz.underlying117,fun _=>by kernel_rfl⟩
instance inf117 :Inf Tryz.prog 117 8 128 (Go.Value.agg #[Go.Value.int Go.IntKind.i64 0,Go.Value.int Go.IntKind.i64 0,Go.Value.slice none 0 0,Go.Value.slice none 0 0,Go.Value.slice none 0 0,Go.Value.slice none 0 0,Go.Value.int Go.IntKind.i64 0,Go.Value.int Go.IntKind.i64 0]):=⟨_,(by kernel_rfl:Tryz.prog.info? 117=some (Tryz.types.getD 117 default)),by kernel_rfl,by kernel_rfl,by kernel_rfl⟩
abbrev und127 :=@Und.mk Tryz.prog 127 _ Tryz.underlying127
attribute [instance] und127
abbrev und142 :=@Und.mk Tryz.prog 142 _ Tryz.underlying142
attribute [instance] und142
instance inf142 :Inf Tryz.prog 142 1 8 (Go.Value.pointer none):=⟨_,(by kernel_rfl:Tryz.prog.info? 142=some (Tryz.types.getD 142 default)),by kernel_rfl,by kernel_rfl,by kernel_rfl⟩
abbrev und143 :=@Und.mk Tryz.prog 143 _ Tryz.underlying143
attribute [instance] und143
instance inf143 :Inf Tryz.prog 143 1 8 Go.Value.nilFunc:=⟨_,(by kernel_rfl:Tryz.prog.info? 143=some (Tryz.types.getD 143 default)),by kernel_rfl,by kernel_rfl,by kernel_rfl⟩
abbrev und145 :=@Und.mk Tryz.prog 145 _ Tryz.underlying145
attribute [instance] und145
instance plc145 :Plc Tryz.prog 145 [(0,1),(1,17),(18,1),(19,1),(20,1),(21,1)]:=⟨_,Tryz.underlying145,fun _=>by kernel_rfl⟩
instance inf145 :Inf Tryz.prog 145 22 240 (Go.Value.agg #[Go.Value.int Go.IntKind.i64 0,Go.Value.int Go.IntKind.i64 0,Go.Value.int Go.IntKind.i64 0,Go.Value.int Go.IntKind.i64 0,Go.Value.int Go.IntKind.i64 0,Go.Value.int Go.IntKind.i64 0,Go.Value.int Go.IntKind.i64 0,Go.Value.int Go.IntKind.i64 0,Go.Value.int Go.IntKind.i64 0,Go.Value.int Go.IntKind.i64 0,Go.Value.int Go.IntKind.i64 0,Go.Value.int Go.IntKind.i64 0,Go.Value.int Go.IntKind.i64 0,Go.Value.int Go.IntKind.i64 0,Go.Value.slice none 0 0,Go.Value.slice none 0 0,Go.Value.slice none 0 0,Go.Value.slice none 0 0,Go.Value.int Go.IntKind.i64 0,Go.Value.int Go.IntKind.i64 0,Go.Value.bool false,Go.Value.nilFunc]):=⟨_,(by kernel_rfl:Tryz.prog.info? 145=some (Tryz.types.getD 145 default)),by kernel_rfl,by kernel_rfl,by kernel_rfl⟩
abbrev und148 :=@Und.mk Tryz.prog 148 _ Tryz.underlying148
attribute [instance] und148
abbrev und150 :=@Und.mk Tryz.prog 150 _ Tryz.underlying150
attribute [instance] und150
instance plc150 :Plc Tryz.prog 150 [(0,1),(1,1)]:=⟨_,Tryz.underlying150,fun _=>by kernel_rfl⟩
instance inf150 :Inf Tryz.prog 150 2 32 (Go.Value.agg #[Go.Value.slice none 0 0,Go.Value.bool false]):=⟨_,(by kernel_rfl:Tryz.prog.info? 150=some (Tryz.types.getD 150 default)),by kernel_rfl,by kernel_rfl,by kernel_rfl⟩
abbrev und153 :=@Und.mk Tryz.prog 153 _ Tryz.underlying153
attribute [instance] und153
abbrev und157 :=@Und.mk Tryz.prog 157 _ Tryz.underlying157
attribute [instance] und157
instance inf157 :Inf Tryz.prog 157 1 8 (Go.Value.pointer none):=⟨_,(by kernel_rfl:Tryz.prog.info? 157=some (Tryz.types.getD 157 default)),by kernel_rfl,by kernel_rfl,by kernel_rfl⟩
abbrev und182 :=@Und.mk Tryz.prog 182 _ Tryz.underlying182
attribute [instance] und182
instance plc182 :Plc Tryz.prog 182 [(0,1),(1,1)]:=⟨_,Tryz.underlying182,fun _=>by kernel_rfl⟩
instance inf182 :Inf Tryz.prog 182 2 32 (Go.Value.agg #[Go.Value.int Go.IntKind.i64 0,Go.Value.slice none 0 0]):=⟨_,(by kernel_rfl:Tryz.prog.info? 182=some (Tryz.types.getD 182 default)),by kernel_rfl,by kernel_rfl,by kernel_rfl⟩
abbrev und186 :=@Und.mk Tryz.prog 186 _ Tryz.underlying186
attribute [instance] und186
instance inf186 :Inf Tryz.prog 186 1 8 (Go.Value.map none):=⟨_,(by kernel_rfl:Tryz.prog.info? 186=some (Tryz.types.getD 186 default)),by kernel_rfl,by kernel_rfl,by kernel_rfl⟩
abbrev und187 :=@Und.mk Tryz.prog 187 _ Tryz.underlying187
attribute [instance] und187
instance inf187 :Inf Tryz.prog 187 1 8 (Go.Value.map none):=⟨_,(by kernel_rfl:Tryz.prog.info? 187=some (Tryz.types.getD 187 default)),by kernel_rfl,by kernel_rfl,by kernel_rfl⟩
abbrev und189 :=@Und.mk Tryz.prog 189 _ Tryz.underlying189
attribute [instance] und189
instance plc189 :Plc Tryz.prog 189 [(0,1),(1,1),(2,1),(3,1),(4,1),(5,1),(6,1),(7,1),(8,1),(9,1),(10,1)]:=⟨_,Tryz.underlying189,fun _=>by kernel_rfl⟩
instance inf189 :Inf Tryz.prog 189 11 104 (Go.Value.agg #[Go.Value.int Go.IntKind.i64 0,Go.Value.int Go.IntKind.i64 0,Go.Value.slice none 0 0,Go.Value.int Go.IntKind.i64 0,Go.Value.map none,Go.Value.map none,Go.Value.bool false,Go.Value.int Go.IntKind.i64 0,Go.Value.map none,Go.Value.map none,Go.Value.int Go.IntKind.i64 0]):=⟨_,(by kernel_rfl:Tryz.prog.info? 189=some (Tryz.types.getD 189 default)),by kernel_rfl,by kernel_rfl,by kernel_rfl⟩
abbrev und195 :=@Und.mk Tryz.prog 195 _ Tryz.underlying195
attribute [instance] und195
instance plc195 :Plc Tryz.prog 195 [(0,1),(1,1),(2,1)]:=⟨_,Tryz.underlying195,fun _=>by kernel_rfl⟩
instance inf195 :Inf Tryz.prog 195 3 56 (Go.Value.agg #[Go.Value.int Go.IntKind.i64 0,Go.Value.slice none 0 0,Go.Value.slice none 0 0]):=⟨_,(by kernel_rfl:Tryz.prog.info? 195=some (Tryz.types.getD 195 default)),by kernel_rfl,by kernel_rfl,by kernel_rfl⟩
abbrev und203 :=@Und.mk Tryz.prog 203 _ Tryz.underlying203
attribute [instance] und203
instance plc203 :Plc Tryz.prog 203 [(0,1),(1,1),(2,1)]:=⟨_,Tryz.underlying203,fun _=>by kernel_rfl⟩
instance inf203 :Inf Tryz.prog 203 3 40 (Go.Value.agg #[Go.Value.int Go.IntKind.i64 0,Go.Value.int Go.IntKind.i64 0,Go.Value.slice none 0 0]):=⟨_,(by kernel_rfl:Tryz.prog.info? 203=some (Tryz.types.getD 203 default)),by kernel_rfl,by kernel_rfl,by kernel_rfl⟩
abbrev und207 :=@Und.mk Tryz.prog 207 _ Tryz.underlying207
attribute [instance] und207
instance inf207 :Inf Tryz.prog 207 5 5 (Go.Value.agg #[Go.Value.bool false,Go.Value.bool false,Go.Value.bool false,Go.Value.bool false,Go.Value.bool false]):=⟨_,(by kernel_rfl:Tryz.prog.info? 207=some (Tryz.types.getD 207 default)),by kernel_rfl,by kernel_rfl,by kernel_rfl⟩
abbrev und218 :=@Und.mk Tryz.prog 218 _ Tryz.underlying218
attribute [instance] und218
instance plc218 :Plc Tryz.prog 218 [(0,1),(1,1)]:=⟨_,Tryz.underlying218,fun _=>by kernel_rfl⟩
instance inf218 :Inf Tryz.prog 218 2 32 (Go.Value.agg #[Go.Value.int Go.IntKind.i64 0,Go.Value.slice none 0 0]):=⟨_,(by kernel_rfl:Tryz.prog.info? 218=some (Tryz.types.getD 218 default)),by kernel_rfl,by kernel_rfl,by kernel_rfl⟩
abbrev und235 :=@Und.mk Tryz.prog 235 _ Tryz.underlying235
attribute [instance] und235
abbrev und239 :=@Und.mk Tryz.prog 239 _ Tryz.underlying239
attribute [instance] und239
abbrev und249 :=@Und.mk Tryz.prog 249 _ Tryz.underlying249
attribute [instance] und249
instance plc249 :Plc Tryz.prog 249 [(0,1),(1,1),(2,1)]:=⟨_,Tryz.underlying249,fun _=>by kernel_rfl⟩
instance inf249 :Inf Tryz.prog 249 3 24 (Go.Value.agg #[Go.Value.int Go.IntKind.i64 0,Go.Value.int Go.IntKind.i64 0,Go.Value.int Go.IntKind.i64 0]):=⟨_,(by kernel_rfl:Tryz.prog.info? 249=some (Tryz.types.getD 249 default)),by kernel_rfl,by kernel_rfl,by kernel_rfl⟩
abbrev und250 :=@Und.mk Tryz.prog 250 _ Tryz.underlying250
attribute [instance] und250
instance inf250 :Inf Tryz.prog 250 1 24 (Go.Value.slice none 0 0):=⟨_,(by kernel_rfl:Tryz.prog.info? 250=some (Tryz.types.getD 250 default)),by kernel_rfl,by kernel_rfl,by kernel_rfl⟩
abbrev und253 :=@Und.mk Tryz.prog 253 _ Tryz.underlying253
attribute [instance] und253
instance plc253 :Plc Tryz.prog 253 [(0,1),(1,1),(2,1)]:=⟨_,Tryz.underlying253,fun _=>by kernel_rfl⟩
instance inf253 :Inf Tryz.prog 253 3 24 (Go.Value.agg #[Go.Value.int Go.IntKind.i64 0,Go.Value.int Go.IntKind.i64 0,Go.Value.int Go.IntKind.i64 0]):=⟨_,(by kernel_rfl:Tryz.prog.info? 253=some (Tryz.types.getD 253 default)),by kernel_rfl,by kernel_rfl,by kernel_rfl⟩
instance fun8 :Fun Tryz.prog 8:=⟨_,Tryz.func8,by kernel_rfl,by kernel_rfl⟩
instance fun9 :Fun Tryz.prog 9:=⟨_,Tryz.func9,by kernel_rfl,by kernel_rfl⟩
instance fun10 :Fun Tryz.prog 10:=⟨_,Tryz.func10,by kernel_rfl,by kernel_rfl⟩
instance fun11 :Fun Tryz.prog 11:=⟨_,Tryz.func11,by kernel_rfl,by kernel_rfl⟩
instance fun12 :Fun Tryz.prog 12:=⟨_,Tryz.func12,by kernel_rfl,by kernel_rfl⟩
instance fun13 :Fun Tryz.prog 13:=⟨_,Tryz.func13,by kernel_rfl,by kernel_rfl⟩
instance fun14 :Fun Tryz.prog 14:=⟨_,Tryz.func14,by kernel_rfl,by kernel_rfl⟩
instance fun15 :Fun Tryz.prog 15:=⟨_,Tryz.func15,by kernel_rfl,by kernel_rfl⟩
instance fun17 :Fun Tryz.prog 17:=⟨_,Tryz.func17,by kernel_rfl,by kernel_rfl⟩
instance fun19 :Fun Tryz.prog 19:=⟨_,Tryz.func19,by kernel_rfl,by kernel_rfl⟩
instance fun20 :Fun Tryz.prog 20:=⟨_,Tryz.func20,by kernel_rfl,by kernel_rfl⟩
instance fun21 :Fun Tryz.prog 21:=⟨_,Tryz.func21,by kernel_rfl,by kernel_rfl⟩
instance fun22 :Fun Tryz.prog 22:=⟨_,Tryz.func22,by kernel_rfl,by kernel_rfl⟩
instance fun26 :Fun Tryz.prog 26:=⟨_,Tryz.func26,by kernel_rfl,by kernel_rfl⟩
instance fun27 :Fun Tryz.prog 27:=⟨_,Tryz.func27,by kernel_rfl,by kernel_rfl⟩
instance fun28 :Fun Tryz.prog 28:=⟨_,Tryz.func28,by kernel_rfl,by kernel_rfl⟩
instance fun29 :Fun Tryz.prog 29:=⟨_,Tryz.func29,by kernel_rfl,by kernel_rfl⟩
instance fun30 :Fun Tryz.prog 30:=⟨_,Tryz.func30,by kernel_rfl,by kernel_rfl⟩
instance fun31 :Fun Tryz.prog 31:=⟨_,Tryz.func31,by kernel_rfl,by kernel_rfl⟩
instance fun32 :Fun Tryz.prog 32:=⟨_,Tryz.func32,by kernel_rfl,by kernel_rfl⟩
instance fun33 :Fun Tryz.prog 33:=⟨_,Tryz.func33,by kernel_rfl,by kernel_rfl⟩
instance fun34 :Fun Tryz.prog 34:=⟨_,Tryz.func34,by kernel_rfl,by kernel_rfl⟩
instance fun35 :Fun Tryz.prog 35:=⟨_,Tryz.func35,by kernel_rfl,by kernel_rfl⟩
instance fun36 :Fun Tryz.prog 36:=⟨_,Tryz.func36,by kernel_rfl,by kernel_rfl⟩
instance fun37 :Fun Tryz.prog 37:=⟨_,Tryz.func37,by kernel_rfl,by kernel_rfl⟩
instance fun38 :Fun Tryz.prog 38:=⟨_,Tryz.func38,by kernel_rfl,by kernel_rfl⟩
instance fun39 :Fun Tryz.prog 39:=⟨_,Tryz.func39,by kernel_rfl,by kernel_rfl⟩
instance fun40 :Fun Tryz.prog 40:=⟨_,Tryz.func40,by kernel_rfl,by kernel_rfl⟩
instance fun41 :Fun Tryz.prog 41:=⟨_,Tryz.func41,by kernel_rfl,by kernel_rfl⟩
instance fun42 :Fun Tryz.prog 42:=⟨_,Tryz.func42,by kernel_rfl,by kernel_rfl⟩
instance fun43 :Fun Tryz.prog 43:=⟨_,Tryz.func43,by kernel_rfl,by kernel_rfl⟩
instance fun44 :Fun Tryz.prog 44:=⟨_,Tryz.func44,by kernel_rfl,by kernel_rfl⟩
instance fun45 :Fun Tryz.prog 45:=⟨_,Tryz.func45,by kernel_rfl,by kernel_rfl⟩
instance fun46 :Fun Tryz.prog 46:=⟨_,Tryz.func46,by kernel_rfl,by kernel_rfl⟩
instance fun54 :Fun Tryz.prog 54:=⟨_,Tryz.func54,by kernel_rfl,by kernel_rfl⟩
instance fun55 :Fun Tryz.prog 55:=⟨_,Tryz.func55,by kernel_rfl,by kernel_rfl⟩
instance fun56 :Fun Tryz.prog 56:=⟨_,Tryz.func56,by kernel_rfl,by kernel_rfl⟩
instance fun57 :Fun Tryz.prog 57:=⟨_,Tryz.func57,by kernel_rfl,by kernel_rfl⟩
instance fun58 :Fun Tryz.prog 58:=⟨_,Tryz.func58,by kernel_rfl,by kernel_rfl⟩
instance fun59 :Fun Tryz.prog 59:=⟨_,Tryz.func59,by kernel_rfl,by kernel_rfl⟩
instance fun60 :Fun Tryz.prog 60:=⟨_,Tryz.func60,by kernel_rfl,by kernel_rfl⟩
instance fun61 :Fun Tryz.prog 61:=⟨_,Tryz.func61,by kernel_rfl,by kernel_rfl⟩
instance fun62 :Fun Tryz.prog 62:=⟨_,Tryz.func62,by kernel_rfl,by kernel_rfl⟩
instance fun63 :Fun Tryz.prog 63:=⟨_,Tryz.func63,by kernel_rfl,by kernel_rfl⟩
instance fun64 :Fun Tryz.prog 64:=⟨_,Tryz.func64,by kernel_rfl,by kernel_rfl⟩
instance fun65 :Fun Tryz.prog 65:=⟨_,Tryz.func65,by kernel_rfl,by kernel_rfl⟩
instance fun66 :Fun Tryz.prog 66:=⟨_,Tryz.func66,by kernel_rfl,by kernel_rfl⟩
instance fun67 :Fun Tryz.prog 67:=⟨_,Tryz.func67,by kernel_rfl,by kernel_rfl⟩
instance fun68 :Fun Tryz.prog 68:=⟨_,Tryz.func68,by kernel_rfl,by kernel_rfl⟩
instance fun69 :Fun Tryz.prog 69:=⟨_,Tryz.func69,by kernel_rfl,by kernel_rfl⟩
instance fun70 :Fun Tryz.prog 70:=⟨_,Tryz.func70,by kernel_rfl,by kernel_rfl⟩
instance fun71 :Fun Tryz.prog 71:=⟨_,Tryz.func71,by kernel_rfl,by kernel_rfl⟩
instance fun72 :Fun Tryz.prog 72:=⟨_,Tryz.func72,by kernel_rfl,by kernel_rfl⟩
instance fun73 :Fun Tryz.prog 73:=⟨_,Tryz.func73,by kernel_rfl,by kernel_rfl⟩
instance fun74 :Fun Tryz.prog 74:=⟨_,Tryz.func74,by kernel_rfl,by kernel_rfl⟩
instance fun75 :Fun Tryz.prog 75:=⟨_,Tryz.func75,by kernel_rfl,by kernel_rfl⟩
instance fun76 :Fun Tryz.prog 76:=⟨_,Tryz.func76,by kernel_rfl,by kernel_rfl⟩
instance fun77 :Fun Tryz.prog 77:=⟨_,Tryz.func77,by kernel_rfl,by kernel_rfl⟩
instance fun78 :Fun Tryz.prog 78:=⟨_,Tryz.func78,by kernel_rfl,by kernel_rfl⟩
instance fun79 :Fun Tryz.prog 79:=⟨_,Tryz.func79,by kernel_rfl,by kernel_rfl⟩
instance fun80 :Fun Tryz.prog 80:=⟨_,Tryz.func80,by kernel_rfl,by kernel_rfl⟩
instance fun81 :Fun Tryz.prog 81:=⟨_,Tryz.func81,by kernel_rfl,by kernel_rfl⟩
instance fun82 :Fun Tryz.prog 82:=⟨_,Tryz.func82,by kernel_rfl,by kernel_rfl⟩
instance fun83 :Fun Tryz.prog 83:=⟨_,Tryz.func83,by kernel_rfl,by kernel_rfl⟩
instance fun84 :Fun Tryz.prog 84:=⟨_,Tryz.func84,by kernel_rfl,by kernel_rfl⟩
instance fun85 :Fun Tryz.prog 85:=⟨_,Tryz.func85,by kernel_rfl,by kernel_rfl⟩
instance fun86 :Fun Tryz.prog 86:=⟨_,Tryz.func86,by kernel_rfl,by kernel_rfl⟩
instance fun87 :Fun Tryz.prog 87:=⟨_,Tryz.func87,by kernel_rfl,by kernel_rfl⟩
instance fun88 :Fun Tryz.prog 88:=⟨_,Tryz.func88,by kernel_rfl,by kernel_rfl⟩
instance fun89 :Fun Tryz.prog 89:=⟨_,Tryz.func89,by kernel_rfl,by kernel_rfl⟩
instance fun90 :Fun Tryz.prog 90:=⟨_,Tryz.func90,by kernel_rfl,by kernel_rfl⟩
instance fun91 :Fun Tryz.prog 91:=⟨_,Tryz.func91,by kernel_rfl,by kernel_rfl⟩
instance fun92 :Fun Tryz.prog 92:=⟨_,Tryz.func92,by kernel_rfl,by kernel_rfl⟩
instance fun93 :Fun Tryz.prog 93:=⟨_,Tryz.func93,by kernel_rfl,by kernel_rfl⟩
instance fun94 :Fun Tryz.prog 94:=⟨_,Tryz.func94,by kernel_rfl,by kernel_rfl⟩
instance fun95 :Fun Tryz.prog 95:=⟨_,Tryz.func95,by kernel_rfl,by kernel_rfl⟩
instance fun96 :Fun Tryz.prog 96:=⟨_,Tryz.func96,by kernel_rfl,by kernel_rfl⟩
instance fun97 :Fun Tryz.prog 97:=⟨_,Tryz.func97,by kernel_rfl,by kernel_rfl⟩
instance fun98 :Fun Tryz.prog 98:=⟨_,Tryz.func98,by kernel_rfl,by kernel_rfl⟩
instance fun99 :Fun Tryz.prog 99:=⟨_,Tryz.func99,by kernel_rfl,by kernel_rfl⟩
instance fun100 :Fun Tryz.prog 100:=⟨_,Tryz.func100,by kernel_rfl,by kernel_rfl⟩
instance fun101 :Fun Tryz.prog 101:=⟨_,Tryz.func101,by kernel_rfl,by kernel_rfl⟩
instance fun109 :Fun Tryz.prog 109:=⟨_,Tryz.func109,by kernel_rfl,by kernel_rfl⟩
instance fun110 :Fun Tryz.prog 110:=⟨_,Tryz.func110,by kernel_rfl,by kernel_rfl⟩
instance fun111 :Fun Tryz.prog 111:=⟨_,Tryz.func111,by kernel_rfl,by kernel_rfl⟩
instance fun112 :Fun Tryz.prog 112:=⟨_,Tryz.func112,by kernel_rfl,by kernel_rfl⟩
instance fun113 :Fun Tryz.prog 113:=⟨_,Tryz.func113,by kernel_rfl,by kernel_rfl⟩
instance fun114 :Fun Tryz.prog 114:=⟨_,Tryz.func114,by kernel_rfl,by kernel_rfl⟩
instance fun115 :Fun Tryz.prog 115:=⟨_,Tryz.func115,by kernel_rfl,by kernel_rfl⟩
instance fun116 :Fun Tryz.prog 116:=⟨_,Tryz.func116,by kernel_rfl,by kernel_rfl⟩
instance fun117 :Fun Tryz.prog 117:=⟨_,Tryz.func117,by kernel_rfl,by kernel_rfl⟩
instance fun118 :Fun Tryz.prog 118:=⟨_,Tryz.func118,by kernel_rfl,by kernel_rfl⟩
instance fun119 :Fun Tryz.prog 119:=⟨_,Tryz.func119,by kernel_rfl,by kernel_rfl⟩
instance fun120 :Fun Tryz.prog 120:=⟨_,Tryz.func120,by kernel_rfl,by kernel_rfl⟩
instance fun121 :Fun Tryz.prog 121:=⟨_,Tryz.func121,by kernel_rfl,by kernel_rfl⟩
instance fun122 :Fun Tryz.prog 122:=⟨_,Tryz.func122,by kernel_rfl,by kernel_rfl⟩
instance fun123 :Fun Tryz.prog 123:=⟨_,Tryz.func123,by kernel_rfl,by kernel_rfl⟩
instance fun124 :Fun Tryz.prog 124:=⟨_,Tryz.func124,by kernel_rfl,by kernel_rfl⟩
instance fun125 :Fun Tryz.prog 125:=⟨_,Tryz.func125,by kernel_rfl,by kernel_rfl⟩
instance fun126 :Fun Tryz.prog 126:=⟨_,Tryz.func126,by kernel_rfl,by kernel_rfl⟩
instance fun127 :Fun Tryz.prog 127:=⟨_,Tryz.func127,by kernel_rfl,by kernel_rfl⟩
instance fun128 :Fun Tryz.prog 128:=⟨_,Tryz.func128,by kernel_rfl,by kernel_rfl⟩
instance fun129 :Fun Tryz.prog 129:=⟨_,Tryz.func129,by kernel_rfl,by kernel_rfl⟩
instance fun130 :Fun Tryz.prog 130:=⟨_,Tryz.func130,by kernel_rfl,by kernel_rfl⟩
instance fun131 :Fun Tryz.prog 131:=⟨_,Tryz.func131,by kernel_rfl,by kernel_rfl⟩
instance fun132 :Fun Tryz.prog 132:=⟨_,Tryz.func132,by kernel_rfl,by kernel_rfl⟩
instance fun133 :Fun Tryz.prog 133:=⟨_,Tryz.func133,by kernel_rfl,by kernel_rfl⟩
instance fun134 :Fun Tryz.prog 134:=⟨_,Tryz.func134,by kernel_rfl,by kernel_rfl⟩
instance fun135 :Fun Tryz.prog 135:=⟨_,Tryz.func135,by kernel_rfl,by kernel_rfl⟩
instance fun136 :Fun Tryz.prog 136:=⟨_,Tryz.func136,by kernel_rfl,by kernel_rfl⟩
instance fun137 :Fun Tryz.prog 137:=⟨_,Tryz.func137,by kernel_rfl,by kernel_rfl⟩
instance fun138 :Fun Tryz.prog 138:=⟨_,Tryz.func138,by kernel_rfl,by kernel_rfl⟩
instance fun139 :Fun Tryz.prog 139:=⟨_,Tryz.func139,by kernel_rfl,by kernel_rfl⟩
instance fun140 :Fun Tryz.prog 140:=⟨_,Tryz.func140,by kernel_rfl,by kernel_rfl⟩
instance fun141 :Fun Tryz.prog 141:=⟨_,Tryz.func141,by kernel_rfl,by kernel_rfl⟩
instance fun142 :Fun Tryz.prog 142:=⟨_,Tryz.func142,by kernel_rfl,by kernel_rfl⟩
instance fun143 :Fun Tryz.prog 143:=⟨_,Tryz.func143,by kernel_rfl,by kernel_rfl⟩
instance fun144 :Fun Tryz.prog 144:=⟨_,Tryz.func144,by kernel_rfl,by kernel_rfl⟩
instance fun145 :Fun Tryz.prog 145:=⟨_,Tryz.func145,by kernel_rfl,by kernel_rfl⟩
instance fun146 :Fun Tryz.prog 146:=⟨_,Tryz.func146,by kernel_rfl,by kernel_rfl⟩
instance fun147 :Fun Tryz.prog 147:=⟨_,Tryz.func147,by kernel_rfl,by kernel_rfl⟩
instance fun148 :Fun Tryz.prog 148:=⟨_,Tryz.func148,by kernel_rfl,by kernel_rfl⟩
instance fun149 :Fun Tryz.prog 149:=⟨_,Tryz.func149,by kernel_rfl,by kernel_rfl⟩
instance fun150 :Fun Tryz.prog 150:=⟨_,Tryz.func150,by kernel_rfl,by kernel_rfl⟩
instance fun151 :Fun Tryz.prog 151:=⟨_,Tryz.func151,by kernel_rfl,by kernel_rfl⟩
instance fun152 :Fun Tryz.prog 152:=⟨_,Tryz.func152,by kernel_rfl,by kernel_rfl⟩
instance fun153 :Fun Tryz.prog 153:=⟨_,Tryz.func153,by kernel_rfl,by kernel_rfl⟩
instance fun154 :Fun Tryz.prog 154:=⟨_,Tryz.func154,by kernel_rfl,by kernel_rfl⟩
instance fun155 :Fun Tryz.prog 155:=⟨_,Tryz.func155,by kernel_rfl,by kernel_rfl⟩
instance fun156 :Fun Tryz.prog 156:=⟨_,Tryz.func156,by kernel_rfl,by kernel_rfl⟩
instance fun157 :Fun Tryz.prog 157:=⟨_,Tryz.func157,by kernel_rfl,by kernel_rfl⟩
instance fun158 :Fun Tryz.prog 158:=⟨_,Tryz.func158,by kernel_rfl,by kernel_rfl⟩
instance fun159 :Fun Tryz.prog 159:=⟨_,Tryz.func159,by kernel_rfl,by kernel_rfl⟩
instance fun160 :Fun Tryz.prog 160:=⟨_,Tryz.func160,by kernel_rfl,by kernel_rfl⟩
instance fun161 :Fun Tryz.prog 161:=⟨_,Tryz.func161,by kernel_rfl,by kernel_rfl⟩
instance fun162 :Fun Tryz.prog 162:=⟨_,Tryz.func162,by kernel_rfl,by kernel_rfl⟩
instance fun163 :Fun Tryz.prog 163:=⟨_,Tryz.func163,by kernel_rfl,by kernel_rfl⟩
instance fun164 :Fun Tryz.prog 164:=⟨_,Tryz.func164,by kernel_rfl,by kernel_rfl⟩
instance fun165 :Fun Tryz.prog 165:=⟨_,Tryz.func165,by kernel_rfl,by kernel_rfl⟩
instance fun166 :Fun Tryz.prog 166:=⟨_,Tryz.func166,by kernel_rfl,by kernel_rfl⟩
instance fun167 :Fun Tryz.prog 167:=⟨_,Tryz.func167,by kernel_rfl,by kernel_rfl⟩
instance fun168 :Fun Tryz.prog 168:=⟨_,Tryz.func168,by kernel_rfl,by kernel_rfl⟩
instance fun169 :Fun Tryz.prog 169:=⟨_,Tryz.func169,by kernel_rfl,by kernel_rfl⟩
instance fun170 :Fun Tryz.prog 170:=⟨_,Tryz.func170,by kernel_rfl,by kernel_rfl⟩
instance fun171 :Fun Tryz.prog 171:=⟨_,Tryz.func171,by kernel_rfl,by kernel_rfl⟩
instance fun172 :Fun Tryz.prog 172:=⟨_,Tryz.func172,by kernel_rfl,by kernel_rfl⟩
instance fun173 :Fun Tryz.prog 173:=⟨_,Tryz.func173,by kernel_rfl,by kernel_rfl⟩
instance fun174 :Fun Tryz.prog 174:=⟨_,Tryz.func174,by kernel_rfl,by kernel_rfl⟩
instance fun175 :Fun Tryz.prog 175:=⟨_,Tryz.func175,by kernel_rfl,by kernel_rfl⟩
instance fun176 :Fun Tryz.prog 176:=⟨_,Tryz.func176,by kernel_rfl,by kernel_rfl⟩
instance fun177 :Fun Tryz.prog 177:=⟨_,Tryz.func177,by kernel_rfl,by kernel_rfl⟩
instance fun178 :Fun Tryz.prog 178:=⟨_,Tryz.func178,by kernel_rfl,by kernel_rfl⟩
instance fun179 :Fun Tryz.prog 179:=⟨_,Tryz.func179,by kernel_rfl,by kernel_rfl⟩
instance fun180 :Fun Tryz.prog 180:=⟨_,Tryz.func180,by kernel_rfl,by kernel_rfl⟩
instance fun181 :Fun Tryz.prog 181:=⟨_,Tryz.func181,by kernel_rfl,by kernel_rfl⟩
instance fun202 :Fun Tryz.prog 202:=⟨_,Tryz.func202,by kernel_rfl,by kernel_rfl⟩
instance fun203 :Fun Tryz.prog 203:=⟨_,Tryz.func203,by kernel_rfl,by kernel_rfl⟩
instance fun204 :Fun Tryz.prog 204:=⟨_,Tryz.func204,by kernel_rfl,by kernel_rfl⟩
instance fun205 :Fun Tryz.prog 205:=⟨_,Tryz.func205,by kernel_rfl,by kernel_rfl⟩
instance fun206 :Fun Tryz.prog 206:=⟨_,Tryz.func206,by kernel_rfl,by kernel_rfl⟩
instance fun207 :Fun Tryz.prog 207:=⟨_,Tryz.func207,by kernel_rfl,by kernel_rfl⟩
instance fun208 :Fun Tryz.prog 208:=⟨_,Tryz.func208,by kernel_rfl,by kernel_rfl⟩
instance fun209 :Fun Tryz.prog 209:=⟨_,Tryz.func209,by kernel_rfl,by kernel_rfl⟩
instance fun210 :Fun Tryz.prog 210:=⟨_,Tryz.func210,by kernel_rfl,by kernel_rfl⟩
instance fun211 :Fun Tryz.prog 211:=⟨_,Tryz.func211,by kernel_rfl,by kernel_rfl⟩
instance fun212 :Fun Tryz.prog 212:=⟨_,Tryz.func212,by kernel_rfl,by kernel_rfl⟩
instance fun213 :Fun Tryz.prog 213:=⟨_,Tryz.func213,by kernel_rfl,by kernel_rfl⟩
instance fun214 :Fun Tryz.prog 214:=⟨_,Tryz.func214,by kernel_rfl,by kernel_rfl⟩
instance fun215 :Fun Tryz.prog 215:=⟨_,Tryz.func215,by kernel_rfl,by kernel_rfl⟩
instance fun216 :Fun Tryz.prog 216:=⟨_,Tryz.func216,by kernel_rfl,by kernel_rfl⟩
instance fun217 :Fun Tryz.prog 217:=⟨_,Tryz.func217,by kernel_rfl,by kernel_rfl⟩
instance fun218 :Fun Tryz.prog 218:=⟨_,Tryz.func218,by kernel_rfl,by kernel_rfl⟩
instance fun219 :Fun Tryz.prog 219:=⟨_,Tryz.func219,by kernel_rfl,by kernel_rfl⟩
instance fun220 :Fun Tryz.prog 220:=⟨_,Tryz.func220,by kernel_rfl,by kernel_rfl⟩
instance fun221 :Fun Tryz.prog 221:=⟨_,Tryz.func221,by kernel_rfl,by kernel_rfl⟩
instance fun222 :Fun Tryz.prog 222:=⟨_,Tryz.func222,by kernel_rfl,by kernel_rfl⟩
instance fun223 :Fun Tryz.prog 223:=⟨_,Tryz.func223,by kernel_rfl,by kernel_rfl⟩
instance fun224 :Fun Tryz.prog 224:=⟨_,Tryz.func224,by kernel_rfl,by kernel_rfl⟩
instance fun227 :Fun Tryz.prog 227:=⟨_,Tryz.func227,by kernel_rfl,by kernel_rfl⟩
instance fun228 :Fun Tryz.prog 228:=⟨_,Tryz.func228,by kernel_rfl,by kernel_rfl⟩
instance fun229 :Fun Tryz.prog 229:=⟨_,Tryz.func229,by kernel_rfl,by kernel_rfl⟩
instance fun230 :Fun Tryz.prog 230:=⟨_,Tryz.func230,by kernel_rfl,by kernel_rfl⟩
instance fun231 :Fun Tryz.prog 231:=⟨_,Tryz.func231,by kernel_rfl,by kernel_rfl⟩
instance fun232 :Fun Tryz.prog 232:=⟨_,Tryz.func232,by kernel_rfl,by kernel_rfl⟩
instance fun233 :Fun Tryz.prog 233:=⟨_,Tryz.func233,by kernel_rfl,by kernel_rfl⟩
instance fun234 :Fun Tryz.prog 234:=⟨_,Tryz.func234,by kernel_rfl,by kernel_rfl⟩
instance fun235 :Fun Tryz.prog 235:=⟨_,Tryz.func235,by kernel_rfl,by kernel_rfl⟩
instance fun236 :Fun Tryz.prog 236:=⟨_,Tryz.func236,by kernel_rfl,by kernel_rfl⟩
instance fun237 :Fun Tryz.prog 237:=⟨_,Tryz.func237,by kernel_rfl,by kernel_rfl⟩
instance fun238 :Fun Tryz.prog 238:=⟨_,Tryz.func238,by kernel_rfl,by kernel_rfl⟩
instance fun239 :Fun Tryz.prog 239:=⟨_,Tryz.func239,by kernel_rfl,by kernel_rfl⟩
instance fun240 :Fun Tryz.prog 240:=⟨_,Tryz.func240,by kernel_rfl,by kernel_rfl⟩
instance fun241 :Fun Tryz.prog 241:=⟨_,Tryz.func241,by kernel_rfl,by kernel_rfl⟩
instance fun242 :Fun Tryz.prog 242:=⟨_,Tryz.func242,by kernel_rfl,by kernel_rfl⟩
instance fun243 :Fun Tryz.prog 243:=⟨_,Tryz.func243,by kernel_rfl,by kernel_rfl⟩
instance fun244 :Fun Tryz.prog 244:=⟨_,Tryz.func244,by kernel_rfl,by kernel_rfl⟩
instance fun245 :Fun Tryz.prog 245:=⟨_,Tryz.func245,by kernel_rfl,by kernel_rfl⟩
instance fun246 :Fun Tryz.prog 246:=⟨_,Tryz.func246,by kernel_rfl,by kernel_rfl⟩
instance fun247 :Fun Tryz.prog 247:=⟨_,Tryz.func247,by kernel_rfl,by kernel_rfl⟩
instance fun248 :Fun Tryz.prog 248:=⟨_,Tryz.func248,by kernel_rfl,by kernel_rfl⟩
instance fun278 :Fun Tryz.prog 278:=⟨_,Tryz.func278,by kernel_rfl,by kernel_rfl⟩
instance fun279 :Fun Tryz.prog 279:=⟨_,Tryz.func279,by kernel_rfl,by kernel_rfl⟩
instance fun280 :Fun Tryz.prog 280:=⟨_,Tryz.func280,by kernel_rfl,by kernel_rfl⟩
instance fun281 :Fun Tryz.prog 281:=⟨_,Tryz.func281,by kernel_rfl,by kernel_rfl⟩
instance fun283 :Fun Tryz.prog 283:=⟨_,Tryz.func283,by kernel_rfl,by kernel_rfl⟩
instance fun284 :Fun Tryz.prog 284:=⟨_,Tryz.func284,by kernel_rfl,by kernel_rfl⟩
instance fun285 :Fun Tryz.prog 285:=⟨_,Tryz.func285,by kernel_rfl,by kernel_rfl⟩
instance fun286 :Fun Tryz.prog 286:=⟨_,Tryz.func286,by kernel_rfl,by kernel_rfl⟩
instance fun287 :Fun Tryz.prog 287:=⟨_,Tryz.func287,by kernel_rfl,by kernel_rfl⟩
instance fun289 :Fun Tryz.prog 289:=⟨_,Tryz.func289,by kernel_rfl,by kernel_rfl⟩
instance fun290 :Fun Tryz.prog 290:=⟨_,Tryz.func290,by kernel_rfl,by kernel_rfl⟩
instance fun291 :Fun Tryz.prog 291:=⟨_,Tryz.func291,by kernel_rfl,by kernel_rfl⟩
instance fun292 :Fun Tryz.prog 292:=⟨_,Tryz.func292,by kernel_rfl,by kernel_rfl⟩
instance fun293 :Fun Tryz.prog 293:=⟨_,Tryz.func293,by kernel_rfl,by kernel_rfl⟩
instance fun294 :Fun Tryz.prog 294:=⟨_,Tryz.func294,by kernel_rfl,by kernel_rfl⟩
instance fun295 :Fun Tryz.prog 295:=⟨_,Tryz.func295,by kernel_rfl,by kernel_rfl⟩
instance fun296 :Fun Tryz.prog 296:=⟨_,Tryz.func296,by kernel_rfl,by kernel_rfl⟩
instance fun297 :Fun Tryz.prog 297:=⟨_,Tryz.func297,by kernel_rfl,by kernel_rfl⟩
instance fun298 :Fun Tryz.prog 298:=⟨_,Tryz.func298,by kernel_rfl,by kernel_rfl⟩
instance fun299 :Fun Tryz.prog 299:=⟨_,Tryz.func299,by kernel_rfl,by kernel_rfl⟩
instance fun300 :Fun Tryz.prog 300:=⟨_,Tryz.func300,by kernel_rfl,by kernel_rfl⟩
instance fun301 :Fun Tryz.prog 301:=⟨_,Tryz.func301,by kernel_rfl,by kernel_rfl⟩
instance fun302 :Fun Tryz.prog 302:=⟨_,Tryz.func302,by kernel_rfl,by kernel_rfl⟩
instance fun303 :Fun Tryz.prog 303:=⟨_,Tryz.func303,by kernel_rfl,by kernel_rfl⟩
instance fun304 :Fun Tryz.prog 304:=⟨_,Tryz.func304,by kernel_rfl,by kernel_rfl⟩
instance fun342 :Fun Tryz.prog 342:=⟨_,Tryz.func342,by kernel_rfl,by kernel_rfl⟩
instance fun343 :Fun Tryz.prog 343:=⟨_,Tryz.func343,by kernel_rfl,by kernel_rfl⟩
instance fun345 :Fun Tryz.prog 345:=⟨_,Tryz.func345,by kernel_rfl,by kernel_rfl⟩
instance fun353 :Fun Tryz.prog 353:=⟨_,Tryz.func353,by kernel_rfl,by kernel_rfl⟩
end Sl
end Go.Proofs.YtfahijncpmlhjaaGreat
namespace Go.Proofs.YtfahijncpmlhjaaGreat
open Go Go.RowKit
namespace Sl
section
variable {P:Program} {w0:World} {L:Hp} {g:Env}
theorem run_newVar (t:TypeId) (v:Value) (w:World):(newVar t v).run P w=.ok ⟨w.heap.size,0,none⟩ (w.alloc (.cells v.cells t)):=by
 rfl
theorem ev_box {t:TypeId} {x:Operand} {v:Value} (hx:ev g x=some v) :
  EV P w0 L g (.box t x) fun u L'=>∃ b,u=.pointer (some ⟨b,0,none⟩)∧L'=pt b (.cells v.cells t)+L:=by
 intro o a w n ho ha hst
 refine ⟨.pointer (some ⟨w.heap.size,0,none⟩),w.alloc (.cells v.cells t),_,.inl ?_,⟨_,rfl,rfl⟩,hst.alloc _⟩
 unfold execOp
 simp only [ho,ha.ev hx,Instr.box,Sem.run_bind,run_newVar,Result.andThen_ok,Sem.run_pure]
theorem ev_alloc {t:TypeId} {sz by':Nat} {z:Value} [hi:Inf P t sz by' z] :
  EV P w0 L g (.alloc t) fun u L'=>∃ b,u=.pointer (some ⟨b,0,none⟩)∧L'=pt b (.cells z.cells t)+L:=by
 intro o a w n ho ha hst
 obtain ⟨i,h1,h2,h3,h4⟩:=hi.out
 refine ⟨.pointer (some ⟨w.heap.size,0,none⟩),w.alloc (.cells z.cells t),_,.inl ?_,⟨_,rfl,rfl⟩,hst.alloc _⟩
 unfold execOp
 simp only [ho,Instr.alloc,zeroValue,typeInfo,Sem.run_bind,run_program,h1,h4,run_newVar,Result.andThen_ok,Sem.run_pure]
theorem map_pairs (f:Operand→Value):∀ (parts:List (Nat × Operand)),parts.map (fun (p:Nat × Operand)=>(p.1,f p.2))=(parts.map (·.1)).zip ((parts.map (·.2)).map f)
 | []=>rfl
 | p::l=>by simp only [List.map_cons,List.zip_cons_cons,map_pairs f l]
theorem ev_buildSlice {t e:TypeId} [hu:Und P t (.slice e)] {sz by':Nat} {z:Value} [hi:Inf P e sz by' z] {len:Nat} {parts:List (Nat × Operand)} {vs cells:List Value}
  (hp:evs g (parts.map (·.2))=some vs) (hlim:decide (len*sz≤16777216)=true) (hz:(z.cells.size==sz)=true)
  (hfill':fillL (fun i=>some (i*sz,sz)) (List.replicate len z.cells.toList).flatten ((parts.map (·.1)).zip vs)=some cells) :
  EV P w0 L g (.buildSlice t len parts.toArray) fun u L'=>∃ b,u=.slice (some ⟨b,0,none⟩) len len∧L'=pt b (.cells cells.toArray e (0,0))+L:=by
 intro o a w n ho ha hst
 obtain ⟨i,h1,h2,h3,h4⟩:=hi.out
 have hfill:=fill_eq _ _ _ _ hfill'
 rw [← zeros_eq z.cells len sz (by simpa using hz)] at hfill
 refine ⟨.slice (some ⟨w.heap.size,0,none⟩) len len,w.alloc (.cells cells.toArray e),_,.inl ?_,⟨_,rfl,rfl⟩,hst.alloc _⟩
 have hparts:parts.map (fun (p:Nat × Operand)=>(p.1,a.eval p.2))=(parts.map (·.1)).zip vs:=by
  have:=ha.evs hp
  rw [map_pairs,this]
 have hlim':¬ (len*sz > 2 ^ 24):=by have:=of_decide_eq_true hlim; omega
 have hnew:∀ c:Array Value,(newRow e c).run P w=.ok ⟨w.heap.size,0,none⟩ (w.alloc (.cells c e)):=fun _=>rfl
 unfold execOp
 simp only [ho,Instr.buildSlice,Sem.run_bind,run_underlying hu.out,Result.andThen_ok,sizeOf,typeInfo,run_program,h1,Sem.run_pure,h2,hlim',if_false,List.map_toArray,hparts,List.toList_toArray]
 by_cases h0:len*sz=0
 ·have hf':Instr.fill (fun i=>some (i*sz,sz)) ((Array.range (len*sz)).map ((#[]:Array Value)[· % (#[]:Array Value).size]!)) ((parts.map (·.1)).zip vs)=some cells.toArray:=by
   have er:Array.range 0=#[]:=rfl
   rw [← hfill,h0,er]; simp only [List.map_nil,Array.map_empty]
  simp only [h0,if_true,Sem.run_pure,Result.andThen_ok,Sem.run_bind]
  rw [h0] at hf'
  rw [hf']
  simp only [hnew,Sem.run_bind,Result.andThen_ok,Sem.run_pure]
 ·simp only [h0,if_false,zeroValue,typeInfo,Sem.run_bind,run_program,h1,h4,Sem.run_pure,Result.andThen_ok,hfill,hnew]
theorem run_storeVar1 {t:TypeId} {sz by':Nat} {z:Value} [hi:Inf P t sz by' z] (hsz:(sz==1)=true) {b off:Nat} {c:Array Value} {e:TypeId} {v u:Value} (hv:v.oneCell'=true) {w:World}
  (hb:w.heap[b]?=some (.cells c e (0,0))) (hc:c[off]?=some u) :
  (storeVar t ⟨b,off,none⟩ v).run P w=.ok () (w.setCell ⟨b,off,none⟩ v):=by
 obtain ⟨i,h1,h2,h3,h4⟩:=hi.out
 have hcs:v.cells=#[v]:=by cases v<;>first|rfl|simp [Value.oneCell'] at hv
 have hsz':sz=1:=by simpa using hsz
 have hcell:w.cell? ⟨b,off,none⟩=some u:=by simp [World.cell?,hb,hc]
 have hfr:w.frozen? ⟨b,off,none⟩=false:=by simp [World.frozen?,hb]
 have hadd:(⟨b,off,none⟩:Addr).add 0=⟨b,off,none⟩:=rfl
 simp [storeVar,sizeOf,typeInfo,h1,h2,hsz',hcs,storeCells,hadd,run_store,hv,hcell,hfr]
theorem St.store {w:World} {b off:Nat} {c:List Value} {e:TypeId} {R:Hp} (h:St w0 w (pt b (.cells c.toArray e (0,0))+R)) (v:Value) :
  St w0 (w.setCell ⟨b,off,none⟩ v) (pt b (.cells (c.set off v).toArray e (0,0))+R):=by
 have hb:=h.sat.left.pt.2
 refine h.set ?_ (fun k hk=>Below.heap_setCell _ _ _ _ hk) (by simp [World.setCell]) M M M
 simp only [World.setCell,Array.getElem?_modify,if_true,hb]
 simp
theorem ev_store {t:TypeId} {sz by':Nat} {z:Value} [hi:Inf P t sz by' z] {x y:Operand} {b off:Nat} {c:List Value} {e:TypeId} {v u:Value} {R:Hp}
  (hx:ev g x=some (.pointer (some ⟨b,off,none⟩))) (hy:ev g y=some v) (hsz:(sz==1)=true) (hv:v.oneCell'=true) [hb:HasPt b L (.cells c.toArray e (0,0)) R] (hc:c[off]?=some u) {c':List Value} (hc':c.set off v=c') :
  EV P w0 L g (.store t x y) fun u L'=>L'=pt b (.cells c'.toArray e (0,0))+R:=by
 intro o a w n ho ha hst
 subst hc'
 have hhb:=hst.at hb
 refine ⟨undef,w.setCell ⟨b,off,none⟩ v,_,.inr ⟨?_,rfl⟩,rfl,St.store (by rw [hb.out] at hst; exact hst) v⟩
 unfold execOp
 simp only [ho,ha.ev hx,ha.ev hy,Instr.storeAt,Instr.sureAddr,pure_bind,Sem.run_bind,run_storeVar1 hsz hv hhb (by simpa using hc),Result.andThen_ok,Sem.run_pure]
theorem zQ {f:Operand} {xs:List Operand} {ts:Array TypeId} {k:FuncId} {first cap:Array Value} {vs args:List Value} [hf:Fun P k]
  (h:ev g f=some (.func (.func k) first cap)) (hxs:evs g xs=some vs) (he:first.toList++vs++cap.toList=args) :
  CV P g (.call { callee:=.value f,args:=xs.toArray,argTypes:=ts }) k args:=by
 intro o a w n ho ha
 obtain ⟨fn,h1,h2,h3⟩:=hf.out
 subst he
 unfold execOp
 have hargs:(xs.toArray.map a.eval)=vs.toArray:=by rw [List.map_toArray,ha.evs hxs]
 simp only [ho,resolve,ha.ev h,hargs,Deferred.ofValue,pure_bind,invoke,callFunc,Sem.run_bind,run_program,Result.andThen_ok,h1,h2,h3,Bool.false_eq_true,if_false,Sem.run_pure]
 congr 2
 simp
end
section
variable {P:Program} {w0:World} {L:Hp} {g:Env}
theorem run_askRoom (n:Nat) (w:World):(askRoom n).run P w=.ok () w:=by unfold askRoom; split<;>rfl
theorem ev_makeSlice {t e:TypeId} [hu:Und P t (.slice e)] {sz by':Nat} {z:Value} [hi:Inf P e sz by' z] {x y:Operand} {n:Nat}
  (hx:ev g x=some (.int .i64 (n:Int))) (hy:ev g y=some (.int .i64 (n:Int))) (hz:(z.cells.size==sz)=true) (hb:by'*n≤281474976710656) (hn:n≤9223372036854775807) :
  EV P w0 L g (.makeSlice t x y) fun u L'=>∃ b,u=.slice (some ⟨b,0,none⟩) n n∧L'=pt b (.cells (List.replicate n z.cells.toList).flatten.toArray e (0,0))+L:=by
 intro o a w n' ho ha hst
 obtain ⟨i,h1,h2,h3,h4⟩:=hi.out
 refine ⟨.slice (some ⟨w.heap.size,0,none⟩) n n,w.alloc (.cells (List.replicate n z.cells.toList).flatten.toArray e),_,.inl ?_,⟨_,rfl,rfl⟩,hst.alloc _⟩
 have hw:IntKind.i64.wrap (n:Int)=(n:Int):=IntWalk.i64_in _ ⟨by omega,by omega⟩
 have hzs:z.cells.size=sz:=by simpa using hz
 have hnew:∀ c:Array Value,(newRow e c).run P w=.ok ⟨w.heap.size,0,none⟩ (w.alloc (.cells c e)):=fun _=>rfl
 have hbi:¬ ((i.bytes:Int)*(n:Int) > 2 ^ 48):=by
  rw [h3]
  have:((by'*n:Nat):Int)≤281474976710656:=by omega
  rw [Int.natCast_mul] at this
  omega
 have hcells:∀ zz:Array Value,(n*i.size≠0→zz=z.cells)→((Array.range (n*i.size)).map (zz[· % zz.size]!))=(List.replicate n z.cells.toList).flatten.toArray:=by
  intro zz hzz
  by_cases h0:n*i.size=0
  ·rw [h0]
   have:(List.replicate n z.cells.toList).flatten=[]:=by
    apply List.eq_nil_of_length_eq_zero
    simp [hzs,← h2,h0]
   rw [this]; have er:Array.range 0=#[]:=rfl
   rw [er]; simp
  ·rw [hzz h0,← zeros_eq z.cells n i.size (by rw [hzs,h2])]
 unfold execOp
 simp only [ho,ha.ev hx,ha.ev hy,Instr.makeSlice,Sem.run_bind,run_underlying hu.out,Result.andThen_ok,asInt,asIntOf,Sem.run_pure,typeInfo,run_program,h1,hw]
 have hc1:((n:Int)<0)=False:=by simp
 have hc2:((n:Int) > (n:Int))=False:=by simp
 simp only [hc1,hc2,hbi,decide_false,Bool.or_self,Bool.false_eq_true,if_false,Sem.run_bind,Int.toNat_natCast,run_askRoom,sizeOf,typeInfo,run_program,h1,Sem.run_pure,Result.andThen_ok]
 by_cases h0:n*i.size=0
 ·simp only [h0,if_true,Sem.run_pure,Result.andThen_ok,Sem.run_bind]
  have:=hcells #[] (fun h=>absurd h0 h)
  rw [h0] at this
  simp only [this,hnew,Result.andThen_ok,Sem.run_pure]
 ·have:=hcells z.cells (fun _=>rfl)
  simp only [h0,if_false,zeroValue,typeInfo,Sem.run_bind,run_program,h1,h4,Sem.run_pure,Result.andThen_ok,this,hnew]
theorem pv_slice_h {t e:TypeId} [hu:Und P t (.slice e)] {sz by':Nat} {z:Value} [hi:Inf P e sz by' z] {x y:Operand} {ad:Option Addr} {len cap m:Nat} {k:IntKind}
  (hx:ev g x=some (.slice ad len cap)) (hy:ev g y=some (.int k (m:Int))) (hm:m≤cap):PV P g (.slice t x none (some y) none) (.slice ad m cap):=by
 intro o a w n ho ha
 obtain ⟨i,h1,_⟩:=hi.out
 have hm':(0:Int)≤(m:Int)∧(m:Int)≤(cap:Int):=by omega
 have hadd:∀ q:Addr,q.add 0=q:=fun q=>rfl
 unfold execOp
 simp only [ho,ha.ev hx,Option.map_some,ha.ev hy,Option.map_none,Instr.sliceAt,Sem.run_bind,run_underlying hu.out,Result.andThen_ok,Instr.slice,Instr.sliceBounds,Instr.sliceBound,asIntOf,Sem.run_pure,hm',and_self,if_true,sizeOf,typeInfo,run_program,h1,
  Int.toNat_natCast,Nat.zero_mul,Nat.sub_zero,hadd]
 cases ad<;>simp
end
section
variable {P:Program} {n:Nat} {w0:World} {Q:Post} {g:Env} {L:Hp} {ops:Array Oper} {rest:List Oper} {dst:Option Nat} {ty:TypeId} {pos:String} {af:Array Edge} {gd:Option (Nat × Bool)}
 {eff:List Nat} {W:Watched} {listed:Array Bool} {s:List Nat} {i:Nat}
theorem zK {op:Op} {v:Value} (h:pureV g op=some v) (hw:wantedE ops g gd=some true) (hd:dst.all (·<n)=true) (hk:HoldL P n w0 ops rest Q (putE g dst v) L) :
  HoldL P n w0 ops (⟨dst,op,ty,pos,af,gd⟩::rest) Q g L:=yG hw hd (pv_of h) hk
theorem zY {s:TypeId} {fs:Array Field} [hu:Und P s (.struct fs)] {x:Operand} {b off k:Nat} {nm tg pk:String} {tf:TypeId} {fo bo:Nat} {em:Bool} {sz by':Nat} {z:Value}
  (hx:ev g x=some (.pointer (some ⟨b,off,none⟩))) (hf:fs[k]?=some ⟨nm,tf,fo,em,tg,pk,bo⟩) [hi:Inf P tf sz by' z] (hsz:(sz==0)=false)
  (hw:wantedE ops g gd=some true) (hd:dst.all (·<n)=true) (hk:HoldL P n w0 ops rest Q (putE g dst (.pointer (some ⟨b,off+fo,none⟩))) L) :
  HoldL P n w0 ops (⟨dst,.fieldAddr s x k,ty,pos,af,gd⟩::rest) Q g L:=yG hw hd (zZ hx hf hsz) hk
theorem L_len {t e:TypeId} [hu:Und P t (.slice e)] {x:Operand} {ad:Option Addr} {len cap:Nat} (hx:ev g x=some (.slice ad len cap))
  (hw:wantedE ops g gd=some true) (hd:dst.all (·<n)=true) (hk:HoldL P n w0 ops rest Q (putE g dst (.int .i64 len)) L) :
  HoldL P n w0 ops (⟨dst,.call { callee:=.builtin .len,args:=#[x],argTypes:=#[t] },ty,pos,af,gd⟩::rest) Q g L:=yG hw hd (pv_len hx) hk
theorem L_add {t tb:TypeId} {x y:Operand} {a b:Int} (hx:ev g x=some (.int .i64 a)) (hy:ev g y=some (.int .i64 b)) (h0:-9223372036854775808≤a+b) (h1:a+b≤9223372036854775807)
  (hw:wantedE ops g gd=some true) (hd:dst.all (·<n)=true) (hk:HoldL P n w0 ops rest Q (putE g dst (.int .i64 (a+b))) L) :
  HoldL P n w0 ops (⟨dst,.binOp .add t x y tb,ty,pos,af,gd⟩::rest) Q g L:=yG hw hd (pv_add hx hy h0 h1) hk
theorem L_sub {t tb:TypeId} {x y:Operand} {a b:Int} (hx:ev g x=some (.int .i64 a)) (hy:ev g y=some (.int .i64 b)) (h0:-9223372036854775808≤a - b) (h1:a - b≤9223372036854775807)
  (hw:wantedE ops g gd=some true) (hd:dst.all (·<n)=true) (hk:HoldL P n w0 ops rest Q (putE g dst (.int .i64 (a - b))) L) :
  HoldL P n w0 ops (⟨dst,.binOp .sub t x y tb,ty,pos,af,gd⟩::rest) Q g L:=yG hw hd (pv_sub hx hy h0 h1) hk
theorem L_build {t:TypeId} {pl:List (Nat × Nat)} [hpl:Plc P t pl] {sz by':Nat} {z:Value} [hi:Inf P t sz by' z] {parts:List (Nat × Operand)} {vs cells:List Value}
  (hp:evs g (parts.map (·.2))=some vs) (hfill:fillL (fun i=>pl[i]?) z.cells.toList ((parts.map (·.1)).zip vs)=some cells)
  (hw:wantedE ops g gd=some true) (hd:dst.all (·<n)=true) (hk:HoldL P n w0 ops rest Q (putE g dst (.agg cells.toArray)) L) :
  HoldL P n w0 ops (⟨dst,.build t parts.toArray,ty,pos,af,gd⟩::rest) Q g L:=yG hw hd (pv_build hp hfill) hk
theorem L_ld {t:TypeId} {d:TypeDesc} [hu:Und P t d] {x:Operand} {b off:Nat} {c:List Value} {e:TypeId} {fz:Nat × Nat} {R:Hp} {v:Value}
  (hx:ev g x=some (.pointer (some ⟨b,off,none⟩))) [hb:HasPt b L (.cells c.toArray e fz) R] (hc:c[off]?=some v) (hn:notAgg d=true)
  (hw:wantedE ops g gd=some true) (hd:dst.all (·<n)=true) (hk:HoldL P n w0 ops rest Q (putE g dst v) L) :
  HoldL P n w0 ops (⟨dst,.load t x,ty,pos,af,gd⟩::rest) Q g L:=L_load hw hd (yE hx) (zG hn (zS hc)) hk
theorem L_st {t:TypeId} {sz by':Nat} {z:Value} [hi:Inf P t sz by' z] {x y:Operand} {b off:Nat} {c:List Value} {e:TypeId} {v u:Value} {R:Hp}
  (hx:ev g x=some (.pointer (some ⟨b,off,none⟩))) (hy:ev g y=some v) [hb:HasPt b L (.cells c.toArray e (0,0)) R] (hc:c[off]?=some u) {c':List Value} (hc':c.set off v=c') (hsz:(sz==1)=true) (hv:v.oneCell'=true)
  (hw:wantedE ops g gd=some true) (hk:HoldL P n w0 ops rest Q g (pt b (.cells c'.toArray e (0,0))+R)) :
  HoldL P n w0 ops (⟨none,.store t x y,ty,pos,af,gd⟩::rest) Q g L:=L_eff hw M (ev_store hx hy hsz hv hc hc') (by rintro _ _ rfl; exact hk)
theorem L_box {t:TypeId} {x:Operand} {v:Value} (hx:ev g x=some v) {c:List Value} (hc:v.cells.toList=c) (hw:wantedE ops g gd=some true) (hd:dst.all (·<n)=true)
  (hk:∀ b,HoldL P n w0 ops rest Q (putE g dst (.pointer (some ⟨b,0,none⟩))) (pt b (.cells c.toArray t (0,0))+L)) :
  HoldL P n w0 ops (⟨dst,.box t x,ty,pos,af,gd⟩::rest) Q g L:=L_eff hw hd (ev_box hx) (by rintro _ _ ⟨b,rfl,rfl⟩; subst hc; simpa using hk b)
theorem L_alloc {t:TypeId} {sz by':Nat} {z:Value} [hi:Inf P t sz by' z] {c:List Value} (hc:z.cells.toList=c) (hw:wantedE ops g gd=some true) (hd:dst.all (·<n)=true)
  (hk:∀ b,HoldL P n w0 ops rest Q (putE g dst (.pointer (some ⟨b,0,none⟩))) (pt b (.cells c.toArray t (0,0))+L)) :
  HoldL P n w0 ops (⟨dst,.alloc t,ty,pos,af,gd⟩::rest) Q g L:=L_eff hw hd ev_alloc (by rintro _ _ ⟨b,rfl,rfl⟩; subst hc; simpa using hk b)
theorem yH {op:Op} {v:Value} (hi:ops[i]?=some ⟨dst,op,ty,pos,af,gd⟩) (h:pureV g op=some v) (heff:eff.contains i=false) (hw:wantedE ops g gd=some true) (hd:dst.all (·<n)=true)
  (hk:HoldW P n w0 ops eff W (listed.setIfInBounds i true) s Q (putE g dst v) L):HoldW P n w0 ops eff W listed (i::s) Q g L:=yD hi heff hw hd (pv_of h) hk
end
def isRow (E size:Nat) (xs:List (List Value)) (v:Value) (h:Hp):Prop :=
 (∀ x∈xs,x.length=size) ∧
 ((∃ ad,v=.slice ad 0 0∧xs=[]∧h=0) ∨
 (∃ b cap spare,v=.slice (some ⟨b,0,none⟩) xs.length cap∧h=pt b (.cells (xs.flatten++spare).toArray E (0,0))∧xs.length≤cap∧cap≤maxLen∧spare.length=(cap - xs.length)*size))
def RdAt (w0:World) (L:Hp) (size:Nat) (ad:Option Addr) (xs:List (List Value)):Prop :=
 (∀ x∈xs,x.length=size)∧∀ i x,xs[i]?=some x→∃ b off,ad=some ⟨b,off,none⟩∧∀ j u,x[j]?=some u→Reads w0 L ⟨b,off+i*size+j,none⟩ u
def RdRow (w0:World) (L:Hp) (size:Nat) (v:Value) (xs:List (List Value)):Prop :=
 ∃ ad c,v=.slice ad xs.length c∧RdAt w0 L size ad xs
theorem isRow.shape {E size:Nat} {xs:List (List Value)} {v:Value} {h:Hp} (hr:isRow E size xs v h):∃ ad c,v=.slice ad xs.length c:=by
 obtain ⟨_,⟨ad,rfl,rfl,rfl⟩|⟨b,cap,spare,rfl,rfl,_⟩⟩:=hr
 ·exact ⟨ad,0,rfl⟩
 ·exact ⟨_,cap,rfl⟩
theorem RdRow.shape {w0:World} {L:Hp} {size:Nat} {v:Value} {xs:List (List Value)} (h:RdRow w0 L size v xs):∃ ad c,v=.slice ad xs.length c:=let ⟨ad,c,e,_⟩:=h; ⟨ad,c,e⟩
theorem RdRow.at {w0:World} {L:Hp} {size:Nat} {ad:Option Addr} {n c:Nat} {xs:List (List Value)} (h:RdRow w0 L size (.slice ad n c) xs):n=xs.length∧RdAt w0 L size ad xs:=by
 obtain ⟨ad',c',e,hat⟩:=h
 simp only [Value.slice.injEq] at e
 obtain ⟨rfl,rfl,rfl⟩:=e
 exact ⟨rfl,hat⟩
theorem length_flat {size:Nat}:∀ {xs:List (List Value)},(∀ x∈xs,x.length=size)→xs.flatten.length=xs.length*size:=by
 intro xs
 induction xs with
 | nil=>intro _; simp
 | cons x xs ih=>intro h; simp only [List.flatten_cons,List.length_append,List.length_cons,Nat.succ_mul,ih (fun y hy=>h y (by simp [hy])),h x (by simp)]; omega
theorem flat_at {size:Nat}:∀ {xs:List (List Value)},(∀ x∈xs,x.length=size)→∀ {i j:Nat} {x:List Value} {u:Value},xs[i]?=some x→x[j]?=some u→xs.flatten[i*size+j]?=some u:=by
 intro xs
 induction xs with
 | nil=>intro _ i j x u h; simp at h
 | cons y xs ih =>
  intro h i j x u hx hu
  have hy:=h y (by simp)
  cases i with
  | zero =>
   simp only [List.getElem?_cons_zero,Option.some.injEq] at hx; subst hx
   have:=(List.getElem?_eq_some_iff.1 hu).1
   simp only [Nat.zero_mul,Nat.zero_add,List.flatten_cons]
   rw [List.getElem?_append_left this]; exact hu
  | succ i =>
   simp only [List.getElem?_cons_succ] at hx
   have:=ih (fun z hz=>h z (by simp [hz])) hx hu
   simp only [List.flatten_cons,Nat.succ_mul]
   rw [List.getElem?_append_right (by omega),show i*size+size+j - y.length=i*size+j by omega]
   exact this
theorem flat_inv {size:Nat}:∀ {xs:List (List Value)},(∀ x∈xs,x.length=size)→∀ {j:Nat} {u:Value},xs.flatten[j]?=some u→∃ i r x,xs[i]?=some x∧x[r]?=some u∧j=i*size+r:=by
 intro xs
 induction xs with
 | nil=>intro _ j u h; simp at h
 | cons y xs ih =>
  intro h j u hu
  have hy:=h y (by simp)
  simp only [List.flatten_cons] at hu
  by_cases hj:j<y.length
  ·rw [List.getElem?_append_left hj] at hu
   exact ⟨0,j,y,rfl,hu,by omega⟩
  ·rw [List.getElem?_append_right (by omega)] at hu
   obtain ⟨i,r,x,h1,h2,h3⟩:=ih (fun z hz=>h z (by simp [hz])) hu
   exact ⟨i+1,r,x,by simpa using h1,h2,by rw [Nat.succ_mul]; omega⟩
theorem RdAt.flat {w0:World} {L:Hp} {size:Nat} {ad:Option Addr} {xs:List (List Value)} (h:RdAt w0 L size ad xs) {j:Nat} {u:Value} (hu:xs.flatten[j]?=some u):∃ b off,ad=some ⟨b,off,none⟩∧Reads w0 L ⟨b,off+j,none⟩ u:=by
 obtain ⟨i,r,x,h1,h2,rfl⟩:=flat_inv h.1 hu
 obtain ⟨b,off,rfl,h3⟩:=h.2 i x h1
 exact ⟨b,off,rfl,by have:=h3 r u h2; rwa [Nat.add_assoc] at this⟩
theorem add_none (b off j:Nat):(⟨b,off,none⟩:Addr).add j=⟨b,off+j,none⟩:=by unfold Addr.add; split<;>simp_all
theorem flat_set {size:Nat}:∀ {xs:List (List Value)},(∀ x∈xs,x.length=size)→∀ {i j:Nat} {x:List Value} (v:Value),xs[i]?=some x→j<size→xs.flatten.set (i*size+j) v=(xs.set i (x.set j v)).flatten:=by
 intro xs
 induction xs with
 | nil=>intro _ i j x v h; simp at h
 | cons y xs ih =>
  intro h i j x v hx hj
  have hy:=h y (by simp)
  cases i with
  | zero =>
   simp only [List.getElem?_cons_zero,Option.some.injEq] at hx; subst hx
   simp only [Nat.zero_mul,Nat.zero_add,List.flatten_cons,List.set_cons_zero]
   rw [List.set_append_left _ _ (by omega)]
  | succ i =>
   simp only [List.getElem?_cons_succ] at hx
   have:=ih (fun z hz=>h z (by simp [hz])) v hx hj
   simp only [List.flatten_cons,Nat.succ_mul,List.set_cons_succ]
   rw [List.set_append_right _ _ (by omega),show i*size+size+j - y.length=i*size+j by omega,this]
theorem row_set {size:Nat} {xs:List (List Value)} (h:∀ x∈xs,x.length=size) (spare:List Value) {i j:Nat} {x:List Value} (v:Value) (hx:xs[i]?=some x) (hj:j<size) :
  (xs.flatten++spare).set (i*size+j) v=(xs.set i (x.set j v)).flatten++spare:=by
 have hi:=(List.getElem?_eq_some_iff.1 hx).1
 have hl:=length_flat h
 have:i*size+j<xs.flatten.length:=by
  rw [hl]
  have:(i+1)*size≤xs.length*size:=Nat.mul_le_mul_right _ hi
  rw [Nat.succ_mul] at this
  omega
 rw [List.set_append_left _ _ this,flat_set h v hx hj]
theorem row_get {size:Nat} {xs:List (List Value)} (h:∀ x∈xs,x.length=size) (spare:List Value) {i j:Nat} {x:List Value} {u:Value} (hx:xs[i]?=some x) (hu:x[j]?=some u) :
  (xs.flatten++spare)[i*size+j]?=some u:=by
 have hfl:=flat_at h hx hu
 rw [List.getElem?_append_left (List.getElem?_eq_some_iff.1 hfl).1]; exact hfl
theorem RdRow.take {w0:World} {L:Hp} {size:Nat} {ad:Option Addr} {n c:Nat} {xs:List (List Value)} (h:RdRow w0 L size (.slice ad n c) xs) {m:Nat} (hm:m≤xs.length):RdRow w0 L size (.slice ad m c) (xs.take m):=by
 obtain ⟨rfl,h1,h2⟩:=h.at
 refine ⟨ad,c,by simp [hm],fun x hx=>h1 x (List.mem_of_mem_take hx),fun i x hx=>?_⟩
 rw [List.getElem?_take] at hx
 split at hx
 ·exact h2 i x hx
 ·cases hx
theorem isRow.rd {E size:Nat} {xs:List (List Value)} {v:Value} {h:Hp} {w0:World} {L R:Hp} (hr:isRow E size xs v h) [hf:yJ h L R]:RdRow w0 L size v xs:=by
 obtain ⟨h1,⟨ad,rfl,rfl,rfl⟩|⟨b,cap,spare,rfl,rfl,h2,h3,h4⟩⟩:=hr
 ·exact ⟨ad,0,rfl,h1,fun j u hu=>by simp at hu⟩
 ·refine ⟨_,cap,rfl,h1,fun i x hx=>⟨b,0,rfl,fun j u hu=>?_⟩⟩
  have hfl:=flat_at h1 hx hu
  refine Reads.frame (X:=pt b (.cells (xs.flatten++spare).toArray E (0,0))) (R:=R) (zS ?_)
  have:=(List.getElem?_eq_some_iff.1 hfl).1
  rw [Nat.zero_add,List.getElem?_append_left this]; exact hfl
theorem RdAt.frame {w0:World} {X L R:Hp} [hf:yJ X L R] {size:Nat} {ad:Option Addr} {xs:List (List Value)} (h:RdAt w0 X size ad xs):RdAt w0 L size ad xs :=
 ⟨h.1,fun i x hx=>let ⟨b,off,e,hr⟩:=h.2 i x hx; ⟨b,off,e,fun j u hu=>(hr j u hu).frame (R:=R)⟩⟩
theorem RdRow.frame {w0:World} {X L R:Hp} [hf:yJ X L R] {size:Nat} {v:Value} {xs:List (List Value)} (h:RdRow w0 X size v xs):RdRow w0 L size v xs :=
 let ⟨ad,c,e,h⟩:=h; ⟨ad,c,e,h.frame (R:=R)⟩
section
variable {P:Program} {w0:World} {L:Hp} {g:Env}
theorem ev_append {t e:TypeId} [hu:Und P t (.slice e)] {sz by':Nat} {z:Value} [hi:Inf P e sz by' z] {x y:Operand} {v v2:Value} {xs ns:List (List Value)} {h R:Hp}
  (hx:ev g x=some v) (hy:ev g y=some v2) (hr:isRow e sz xs v h) (hn:RdRow w0 L sz v2 ns) (h1:∀ n∈ns,∀ u∈n,u.oneCell'=true) [hf:yJ h L R]
  (hby:(by'==0)=false) (hsz:(sz==0)=false) (hzs:(z.cells.size==sz)=true) (hb:(xs.length+ns.length)*by'≤140737488355328) :
  EV P w0 L g (.call { callee:=.builtin .append,args:=#[x,y],argTypes:=#[t,t] }) fun u L'=>∃ h',isRow e sz (xs++ns) u h'∧L'=h'+R:=by
 intro o a w n ho ha hst
 obtain ⟨i,i1,i2,i3,i4⟩:=hi.out
 obtain ⟨ad2,c2,rfl,hn⟩:=hn
 have n1:=hn.1
 have n2:∀ j u,ns.flatten[j]?=some u→∃ a,ad2=some a∧Reads w0 L (a.add j) u:=fun j u hu=>by
  obtain ⟨b,off,rfl,h⟩:=hn.flat hu
  exact ⟨_,rfl,by rw [add_none]; exact h⟩
 have hby':1≤by':=by
   have:by'≠0:=by simpa using hby
   omega
 have hsz':1≤sz:=by
   have:sz≠0:=by simpa using hsz
   omega
 have hzs':z.cells.size=sz:=by simpa using hzs
 have hlen:xs.length+ns.length≤140737488355328:=Nat.le_trans (Nat.le_mul_of_pos_right _ hby') hb
 have hall:∀ x∈xs++ns,x.length=sz:=fun x hx=>(List.mem_append.1 hx).elim (hr.1 x) (n1 x)
 have hfl:=length_flat n1
 have hflx:=length_flat hr.1
 have run:execOp a.eval o=(do pure (.value (← Builtin.append_ #[t,t] o.type #[v,.slice ad2 ns.length c2]))):=by
  unfold execOp
  simp only [ho,resolve,invoke,builtin,ha.ev hx,ha.ev hy,List.map_toArray,List.map_cons,List.map_nil,pure_bind]
 have h1':∀ u∈ns.flatten,u.oneCell'=true:=fun u hu=>by
  obtain ⟨m,hm,hum⟩:=List.mem_flatten.1 hu
  exact h1 m hm u hum
 by_cases hm:ns=[]
 ·subst hm
  have hL:St w0 w (h+R):=by rw [hf.out] at hst; exact hst
  refine ⟨v,w,h+R,.inl ?_,⟨h,by simpa using hr,rfl⟩,hL⟩
  rw [run]
  have e0:(Builtin.firstCells i.size 0 (.slice ad2 0 c2)).run P w=.ok #[] w:=by
   cases ad2<;>simp [Builtin.firstCells,loadCells,loadCellsFrom]
  obtain ⟨_,⟨ad,rfl,rfl,rfl⟩|⟨b,cap,spare,rfl,rfl,k1,k2,k3⟩⟩:=hr
  ·simp only [List.length_nil]
   cases ad<;>simp [Builtin.append_,run_underlying hu.out,sizeOf,typeInfo,i1,Builtin.lenOf,e0,storeCells]
  ·simp only [List.length_nil]
   simp [Builtin.append_,run_underlying hu.out,sizeOf,typeInfo,i1,Builtin.lenOf,e0,storeCells,k1]
 ·have hpos:0<ns.length:=List.length_pos_iff.2 hm
  have hne:ns.flatten≠[]:=fun e=>by
   have:ns.flatten.length=0:=by rw [e]; rfl
   rw [hfl] at this
   have:=Nat.mul_pos hpos hsz'
   omega
  obtain ⟨a2,rfl⟩:∃ a2,ad2=some a2:=by
   cases hh:ns.flatten with
   | nil=>exact absurd hh hne
   | cons u l=>obtain ⟨a2,h,_⟩:=n2 0 u (by rw [hh]; rfl); exact ⟨a2,h⟩
  have hnews:∀ j u,ns.flatten[j]?=some u→w.cell? (a2.add j)=some u:=fun j u hu=>by
   obtain ⟨a3,h,hr⟩:=n2 j u hu
   cases h
   exact hr w hst
  have grow:∀ (old:Nat),old<xs.length+ns.length →
    isRow e sz (xs++ns) (.slice (some ⟨w.heap.size,0,none⟩) (xs.length+ns.length) (grownCap w (xs.length+ns.length) old e))
     (pt w.heap.size (.cells (xs.flatten.toArray++ns.flatten.toArray++Builtin.zeroCells z.cells (grownCap w (xs.length+ns.length) old e - (xs.length+ns.length))) e)):=by
   intro old ho
   refine ⟨hall,.inr ⟨w.heap.size,grownCap w (xs.length+ns.length) old e,(Builtin.zeroCells z.cells (grownCap w (xs.length+ns.length) old e - (xs.length+ns.length))).toList,by simp,?_,?_,?_,?_⟩⟩
   ·congr 2
    apply Array.ext'
    simp
   ·simp only [List.length_append]; exact grownCap_ge w _ _ _
   ·exact grownCap_le_maxLen w _ _ _ (by unfold maxLen; omega)
   ·simp only [Array.length_toList,size_zeroCells,hzs',List.length_append]
  have hR:St w0 w R:=by rw [hf.out] at hst; exact hst.right
  obtain ⟨_,⟨ad,rfl,rfl,rfl⟩|⟨b,cap,spare,rfl,rfl,k1,k2,k3⟩⟩:=hr
  ·have hg:=grow 0 (by simpa using hpos)
   simp only [List.length_nil,Nat.zero_add,List.flatten_nil,List.nil_append,Array.empty_append] at hg
   refine ⟨_,w.drew.alloc _,_,.inl ?_,⟨_,hg,rfl⟩,hR.drew.alloc _⟩
   rw [run]
   cases ad with
   | none =>
    have:=run_append_nil (P:=P) w t o.type e i z hu.out i1 i4 a2 ns.length c2 ns.flatten (by rw [i2]; exact hfl) hnews hpos (by omega) (by simp only [List.length_nil,Nat.zero_add] at hb; rw [i3]; omega)
    simp only [Sem.run_bind,this,Result.andThen_ok,Sem.run_pure]
   | some a0 =>
    have:=run_append_grow (P:=P) w t o.type e i z hu.out i1 i4 a0 0 0 [] (by simp) (by simp) a2 ns.length c2 ns.flatten (by rw [i2]; exact hfl) hnews (by omega) (by omega) (by rw [i3]; exact growslice_fits (by omega) (by simpa using hb))
    simp only [Sem.run_bind,this,Result.andThen_ok,Sem.run_pure,Nat.zero_add]
    simp
  ·have hheap:w.heap[b]?=some (.cells (xs.flatten++spare).toArray e (0,0)):=by rw [hf.out] at hst; exact hst.sat.left.pt.2
   by_cases hroom:xs.length+ns.length≤cap
   ·have hfit:xs.length*i.size+ns.flatten.length≤(xs.flatten++spare).toArray.size:=by
     simp only [List.size_toArray,List.length_append,hfl,hflx,k3,i2,← Nat.add_mul]
     exact Nat.mul_le_mul_right _ (by omega)
    have:=run_append_room (P:=P) w t o.type e i hu.out i1 b xs.length cap _ hheap a2 ns.length c2 ns.flatten (by rw [i2]; exact hfl) hnews h1' hroom hfit
    refine ⟨.slice (some ⟨b,0,none⟩) (xs.length+ns.length) cap,w.setRow b ((xs.flatten++spare).toArray.toList.take (xs.length*i.size)++ns.flatten++(xs.flatten++spare).toArray.toList.drop (xs.length*i.size+ns.flatten.length)).toArray,pt b (.cells ((xs++ns).flatten++spare.drop (ns.length*sz)).toArray e (0,0))+R,.inl (by rw [run]; simp only [Sem.run_bind,this,Result.andThen_ok,Sem.run_pure]),⟨_,⟨hall,.inr ⟨b,cap,spare.drop (ns.length*sz),by simp,rfl,by simp; omega,k2,?_⟩⟩,rfl⟩,?_⟩
    ·simp only [List.length_drop,k3,List.length_append,← Nat.sub_mul]
     congr 1; omega
    ·have hst':St w0 w (pt b (.cells (xs.flatten++spare).toArray e (0,0))+R):=by rw [hf.out] at hst; exact hst
     refine hst'.set ?_ (fun k hk=>setRow_other w b k _ hk) (by simp) M M M
     rw [setRow_heap w b _ _ e (0,0) hheap]
     congr 2
     rw [i2,← hflx,List.toList_toArray,List.take_left,hfl,← List.drop_drop,List.drop_left,List.flatten_append]
   ·have hg:=grow cap (by omega)
    refine ⟨_,w.drew.alloc _,_,.inl ?_,⟨_,hg,rfl⟩,hR.drew.alloc _⟩
    have holds:∀ j u,xs.flatten[j]?=some u→w.cell? ((⟨b,0,none⟩:Addr).add j)=some u:=fun j u hu=>by
     have hadd:(⟨b,0,none⟩:Addr).add j=⟨b,j,none⟩:=by unfold Addr.add; split<;>simp_all
     have:=(List.getElem?_eq_some_iff.1 hu).1
     simp [hadd,World.cell?,hheap,List.getElem?_append_left this,hu]
    have:=run_append_grow (P:=P) w t o.type e i z hu.out i1 i4 ⟨b,0,none⟩ xs.length cap xs.flatten (by rw [i2]; exact hflx) holds a2 ns.length c2 ns.flatten (by rw [i2]; exact hfl) hnews (by omega) (by omega) (by rw [i3]; exact growslice_fits (by omega) hb)
    rw [run]
    simp only [Sem.run_bind,this,Result.andThen_ok,Sem.run_pure]
end
attribute [local irreducible] Hold HoldL HoldW
def enc1 (l:List Int):List (List Value):=l.map fun n=>[.int .i64 n]
theorem enc1_at {l:List Int} {k:Nat} (h:k<l.length):(enc1 l)[k]?=some [.int .i64 (l.getD k 0)]:=by simp [enc1,h,List.getD]
theorem enc1_length (l:List Int):(enc1 l).length=l.length:=by simp [enc1]
theorem bool_no {p:Prop} [Decidable p] (h:¬ p):oneV [.bool false]=.bool (decide p):=by rw [decide_eq_false h]; rfl
theorem enc1_set (l:List Int) (i:Nat) (n:Int):(enc1 l).set i [.int .i64 n]=enc1 (l.set i n):=by simp [enc1,List.map_set]
theorem enc1_len1 (l:List Int):∀ x∈enc1 l,x.length=1:=by
 intro x hx
 obtain ⟨n,_,rfl⟩:=List.mem_map.1 hx
 rfl
def intsAt (b:Nat) (l:List Int):Hp:=pt b (.cells ((enc1 l).flatten++[]).toArray 3 (0,0))
theorem ints_made (b n:Nat):pt b (.cells (List.replicate n (Go.Value.int Go.IntKind.i64 0).cells.toList).flatten.toArray 3 (0,0))=intsAt b (List.replicate n 0):=by
 simp [intsAt,enc1,Value.cells]
theorem ints_set {l:List Int} {i:Nat} (h:i<l.length) (n:Int):((enc1 l).flatten++[]).set (i*1+0) (.int .i64 n)=(enc1 (l.set i n)).flatten++[]:=by
 rw [row_set (enc1_len1 l) [] (.int .i64 n) (enc1_at h) (by omega),← enc1_set]; rfl
theorem intsAt_row {b:Nat} {l:List Int} (h:l.length≤9000000000000000000):isRow 3 1 (enc1 l) (.slice (some ⟨b,0,none⟩) l.length l.length) (intsAt b l) :=
 ⟨enc1_len1 l,.inr ⟨b,l.length,[],by rw [enc1_length],rfl,by rw [enc1_length]; exact Nat.le_refl _,by unfold maxLen; omega,by rw [enc1_length]; simp⟩⟩
end Sl
end Go.Proofs.YtfahijncpmlhjaaGreat
namespace Go.Proofs.YtfahijncpmlhjaaGreat
open Go Go.RowKit
namespace Sl
section
variable {P:Program} {n:Nat} {w0:World} {Q:Post} {g:Env} {L:Hp} {ops:Array Oper} {rest:List Oper} {dst:Option Nat} {ty:TypeId} {pos:String} {af:Array Edge} {gd:Option (Nat × Bool)}
theorem run_storeCells {b off:Nat} {e:TypeId} {R:Hp}:∀ (vs:List Value) (i:Nat) (c:List Value) (w:World),St w0 w (pt b (.cells c.toArray e (0,0))+R)→(∀ v∈vs,v.oneCell'=true)→off+i+vs.length≤c.length →
  ∃ w',(storeCells ⟨b,off,none⟩ vs i).run P w=.ok () w'∧St w0 w' (pt b (.cells (spliceL (off+i) vs c).toArray e (0,0))+R)
 | [],i,c,w,h,_,_=>⟨w,by simp [storeCells],by rw [splice_nil]; exact h⟩
 | v::vs,i,c,w,h,h1,h2=>by
  simp only [List.length_cons] at h2
  have hb:=h.sat.left.pt.2
  have hcell:w.cell? ⟨b,off+i,none⟩=some (c[off+i]'(by omega)):=by simp [World.cell?,hb,show off+i<c.length by omega]
  have hfr:w.frozen? ⟨b,off+i,none⟩=false:=by simp [World.frozen?,hb]
  have h':=St.store (off:=off+i) h v
  obtain ⟨w',e1,e2⟩:=run_storeCells (off:=off) vs (i+1) (c.set (off+i) v) _ h' (fun u hu=>h1 u (by simp [hu])) (by simp; omega)
  refine ⟨w',?_,?_⟩
  ·simp only [storeCells,Sem.run_bind,add_none,run_store P w _ v .plain (h1 v (by simp)),hcell,hfr,Bool.false_eq_true,if_false,Result.andThen_ok,e1]
  ·rw [splice_set]; exact e2
theorem ev_storeA {t:TypeId} {sz by':Nat} {z:Value} [hi:Inf P t sz by' z] {x y:Operand} {b off:Nat} {c:List Value} {e:TypeId} {vs:List Value} {R:Hp}
  (hx:ev g x=some (.pointer (some ⟨b,off,none⟩))) (hy:ev g y=some (.agg vs.toArray)) (hl:(vs.length==sz)=true) (h1:vs.all (·.oneCell')=true) [hb:HasPt b L (.cells c.toArray e (0,0)) R] (hc:off+vs.length≤c.length)
  {c':List Value} (hc':spliceL off vs c=c'):EV P w0 L g (.store t x y) fun _ L'=>L'=pt b (.cells c'.toArray e (0,0))+R:=by
 intro o a w m ho ha hst
 subst hc'
 obtain ⟨i,i1,i2,i3,i4⟩:=hi.out
 rw [hb.out] at hst
 obtain ⟨w',e1,e2⟩:=run_storeCells (P:=P) (off:=off) vs 0 c w hst (fun v hv=>List.all_eq_true.1 h1 v hv) (by omega)
 refine ⟨undef,w',_,.inr ⟨?_,rfl⟩,rfl,e2⟩
 have hsz:¬ ((Value.agg vs.toArray).cells.size≠sz):=by simpa [Value.cells] using hl
 have e1':(storeCells ⟨b,off,none⟩ (Value.agg vs.toArray).cells.toList).run P w=.ok () w':=e1
 unfold execOp
 simp only [ho,ha.ev hx,ha.ev hy,Instr.storeAt,Instr.sureAddr,pure_bind,storeVar,sizeOf,typeInfo,Sem.run_bind,run_program,i1,Sem.run_pure,Result.andThen_ok,i2,hsz,if_false,e1']
theorem L_stA {t:TypeId} {sz by':Nat} {z:Value} [hi:Inf P t sz by' z] {x y:Operand} {b off:Nat} {c:List Value} {e:TypeId} {vs:List Value} {R:Hp}
  (hx:ev g x=some (.pointer (some ⟨b,off,none⟩))) (hy:ev g y=some (.agg vs.toArray)) [hb:HasPt b L (.cells c.toArray e (0,0)) R] (hl:(vs.length==sz)=true) (h1:vs.all (·.oneCell')=true) (hc:Nat.ble (off+vs.length) c.length=true)
  {c':List Value} (hc':spliceL off vs c=c') (hw:wantedE ops g gd=some true) (hk:HoldL P n w0 ops rest Q g (pt b (.cells c'.toArray e (0,0))+R)) :
  HoldL P n w0 ops (⟨none,.store t x y,ty,pos,af,gd⟩::rest) Q g L:=L_eff hw M (ev_storeA hx hy hl h1 (Nat.le_of_ble_eq_true hc) hc') (by rintro _ _ rfl; exact hk)
theorem zL {t:TypeId} {d:TypeDesc} [hu:Und P t d] (hd:notAgg d=false) {sz by':Nat} {z:Value} [hi:Inf P t sz by' z] {b off:Nat} {c:List Value} {e:TypeId} {fz:Nat × Nat} {R:Hp}
  [hb:HasPt b L (.cells c.toArray e fz) R] {vs:List Value} (hc:(c.drop off).take sz=vs) (hl:(vs.length==sz)=true):Loads P w0 L t ⟨b,off,none⟩ (.agg vs.toArray) :=
 loads_aggR hd vs (by simpa using hl) fun j v hv=>zS (R:=R) (by
  subst hc
  rw [List.getElem?_take] at hv
  split at hv
  ·rwa [List.getElem?_drop] at hv
  ·cases hv)
theorem L_ldA {t:TypeId} {d:TypeDesc} [hu:Und P t d] {sz by':Nat} {z:Value} [hi:Inf P t sz by' z] {x:Operand} {b off:Nat} {c:List Value} {e:TypeId} {fz:Nat × Nat} {R:Hp} {vs:List Value}
  (hx:ev g x=some (.pointer (some ⟨b,off,none⟩))) [hb:HasPt b L (.cells c.toArray e fz) R] (hc:(c.drop off).take sz=vs) (hl:(vs.length==sz)=true) (hn:notAgg d=false)
  (hw:wantedE ops g gd=some true) (hd:dst.all (·<n)=true) (hk:HoldL P n w0 ops rest Q (putE g dst (.agg vs.toArray)) L) :
  HoldL P n w0 ops (⟨dst,.load t x,ty,pos,af,gd⟩::rest) Q g L:=L_load hw hd (yE hx) (zL hn hc hl) hk
theorem pv_min {x y:Operand} {ts:Array TypeId} {k:IntKind} {i j:Int} (hx:ev g x=some (.int k i)) (hy:ev g y=some (.int k j)) :
  PV P g (.call { callee:=.builtin .min,args:=#[x,y],argTypes:=ts }) (.int k (if j<i then j else i)):=by
 intro o a w m ho ha
 have:=run_min_int2 (P:=P) w ts o.type k k i j
 unfold execOp
 simp [ho,resolve,invoke,builtin,ha.ev hx,ha.ev hy,this]
theorem pv_max {x y:Operand} {ts:Array TypeId} {k:IntKind} {i j:Int} (hx:ev g x=some (.int k i)) (hy:ev g y=some (.int k j)) :
  PV P g (.call { callee:=.builtin .max,args:=#[x,y],argTypes:=ts }) (.int k (if i<j then j else i)):=by
 intro o a w m ho ha
 have:=run_max_int2 (P:=P) w ts o.type k k i j
 unfold execOp
 simp [ho,resolve,invoke,builtin,ha.ev hx,ha.ev hy,this]
theorem pv_slice_isnil {t e ty:TypeId} [hu:Und P t (.slice e)] {x y:Operand} {ad:Option Addr} {l c:Nat} (hx:ev g x=some (.slice ad l c)) (hy:ev g y=some (.slice none 0 0)):PV P g (.binOp .eql t x y ty) (.bool ad.isNone):=by
 intro o a w m ho ha; unfold execOp
 have e1:(Op.equal t (.slice ad l c) (.slice none 0 0)).run P w=.ok ad.isNone w:=by
  show (Op.equalIn (9999+1) t _ _).run P w=_
  unfold Op.equalIn
  cases ad<;>simp only [Sem.run_bind,run_underlying hu.out,Result.andThen_ok,Sem.run_pure]<;>rfl
 have e2:binOp .eql t (.slice ad l c) (.slice none 0 0)=(do pure (.bool (← Op.equal t (.slice ad l c) (.slice none 0 0)))):=rfl
 simp only [ho,ha.ev hx,ha.ev hy,eqGuard,e2,Sem.run_bind,e1,Result.andThen_ok,Sem.run_pure]
 simp only [Bool.not_true,Bool.false_eq_true,if_false,Sem.run_pure,Result.andThen_ok,e1]
theorem pv_quo_nn {t ty:TypeId} {x y:Operand} {i j:Int} (hx:ev g x=some (.int .i64 i)) (hy:ev g y=some (.int .i64 j)) (h0:0≤i) (h1:i≤9223372036854775807) (hj:1≤j):PV P g (.binOp .quo t x y ty) (.int .i64 (i / j)):=by
 have h:=pv_quo (P:=P) (t:=t) (ty:=ty) hx hy (by omega)
 rw [Int.tdiv_eq_ediv_of_nonneg h0] at h
 have a:0≤i / j:=Int.ediv_nonneg h0 (by omega)
 have b:i / j≤i:=Int.ediv_le_self j h0
 rwa [wrap_i64_in _ (by omega) (by omega)] at h
theorem pv_rem_nn {t ty:TypeId} {x y:Operand} {k:IntKind} {i j:Int} (hx:ev g x=some (.int k i)) (hy:ev g y=some (.int k j)) (h0:0≤i) (hj:1≤j):PV P g (.binOp .rem t x y ty) (.int k (i % j)):=by
 have h:=pv_rem (P:=P) (t:=t) (ty:=ty) hx hy (by omega)
 rwa [Int.tmod_eq_emod_of_nonneg h0] at h
theorem pv_shl {t ty:TypeId} {x y:Operand} {k k2:IntKind} {i j:Int} (hx:ev g x=some (.int k i)) (hy:ev g y=some (.int k2 j)) (h0:0≤j):PV P g (.binOp .shl t x y ty) (.int k (k.wrap (i*2 ^ (min j.toNat k.bits)))):=by
 intro o a w m ho ha
 have hn:¬ j<0:=by omega
 unfold execOp
 simp only [ho,ha.ev hx,ha.ev hy,eqGuard,binOp,Op.shift,hn,if_false]
 simp
def shiftA (ad:Option Addr) (l cap size:Nat):Option Addr:=if cap=l then ad else ad.map (·.add (l*size))
theorem pv_slice_l {t e:TypeId} [hu:Und P t (.slice e)] {sz by':Nat} {z:Value} [hi:Inf P e sz by' z] {x y:Operand} {ad:Option Addr} {len cap l:Nat} {k:IntKind}
  (hx:ev g x=some (.slice ad len cap)) (hy:ev g y=some (.int k (l:Int))) (hl:l≤len):PV P g (.slice t x (some y) none none) (.slice (shiftA ad l cap sz) (len - l) (cap - l)):=by
 intro o a w m ho ha
 obtain ⟨i,h1,h2,_⟩:=hi.out
 have hl':(0:Int)≤(l:Int)∧(l:Int)≤(len:Int):=by omega
 unfold execOp
 simp only [ho,ha.ev hx,Option.map_some,ha.ev hy,Option.map_none,Instr.sliceAt,Sem.run_bind,run_underlying hu.out,Result.andThen_ok,Instr.slice,Instr.sliceBounds,Instr.sliceBound,asIntOf,Sem.run_pure,hl',and_self,if_true,sizeOf,typeInfo,run_program,h1,h2,
  Int.toNat_natCast,shiftA]
theorem pv_slice_lh {t e:TypeId} [hu:Und P t (.slice e)] {sz by':Nat} {z:Value} [hi:Inf P e sz by' z] {x y y2:Operand} {ad:Option Addr} {len cap l h:Nat} {k k2:IntKind}
  (hx:ev g x=some (.slice ad len cap)) (hy:ev g y=some (.int k (l:Int))) (hy2:ev g y2=some (.int k2 (h:Int))) (hl:l≤h) (hh:h≤cap):PV P g (.slice t x (some y) (some y2) none) (.slice (shiftA ad l cap sz) (h - l) (cap - l)):=by
 intro o a w m ho ha
 obtain ⟨i,h1,h2,_⟩:=hi.out
 have hl':(0:Int)≤(l:Int)∧(l:Int)≤(h:Int):=by omega
 have hh':(0:Int)≤(h:Int)∧(h:Int)≤(cap:Int):=by omega
 unfold execOp
 simp only [ho,ha.ev hx,Option.map_some,ha.ev hy,ha.ev hy2,Option.map_none,Instr.sliceAt,Sem.run_bind,run_underlying hu.out,Result.andThen_ok,Instr.slice,Instr.sliceBounds,Instr.sliceBound,asIntOf,Sem.run_pure,hh',hl',and_self,if_true,sizeOf,typeInfo,run_program,h1,h2,
  Int.toNat_natCast,shiftA]
theorem RdRow.drop {size:Nat} {ad:Option Addr} {len c:Nat} {xs:List (List Value)} (h:RdRow w0 L size (.slice ad len c) xs) {l:Nat} (hl:l≤len) (hc:len≤c):RdRow w0 L size (.slice (shiftA ad l c size) (len - l) (c - l)) (xs.drop l):=by
 obtain ⟨rfl,h1,h2⟩:=h.at
 refine ⟨shiftA ad l c size,c - l,by rw [List.length_drop],fun x hx=>h1 x (List.mem_of_mem_drop hx),fun i x hx=>?_⟩
 rw [List.getElem?_drop] at hx
 obtain ⟨b,off,rfl,hr⟩:=h2 (l+i) x hx
 have hi:=(List.getElem?_eq_some_iff.1 hx).1
 refine ⟨b,off+l*size,?_,fun j u hu=>?_⟩
 ·unfold shiftA; rw [if_neg (by omega)]; simp [add_none]
 ·have:=hr j u hu
  rwa [Nat.add_mul,← Nat.add_assoc] at this
theorem shiftA_some {b off l cap size:Nat} (h:cap≠l):shiftA (some ⟨b,off,none⟩) l cap size=some ⟨b,off+l*size,none⟩:=by
 unfold shiftA; rw [if_neg h]; simp [add_none]
theorem rd_block {b size c:Nat} {xs:List (List Value)} {spare:List Value} {e:TypeId} {fz:Nat × Nat} {R:Hp} [hb:HasPt b L (.cells (xs.flatten++spare).toArray e fz) R] (hs:∀ x∈xs,x.length=size) :
  RdRow w0 L size (.slice (some ⟨b,0,none⟩) xs.length c) xs :=
 ⟨_,c,rfl,hs,fun i x hx=>⟨b,0,rfl,fun j u hu=>by rw [Nat.zero_add]; exact zS (R:=R) (row_get hs spare hx hu)⟩⟩
theorem isRow.nonempty {E size:Nat} {xs:List (List Value)} {v:Value} {h:Hp} (hr:isRow E size xs v h) (hne:xs≠[]) :
  ∃ b cap spare,v=.slice (some ⟨b,0,none⟩) xs.length cap∧h=pt b (.cells (xs.flatten++spare).toArray E (0,0))∧(∀ x∈xs,x.length=size)∧xs.length≤cap∧cap≤maxLen∧spare.length=(cap - xs.length)*size:=by
 obtain ⟨hs,⟨ad,_,e,_⟩|⟨b,cap,spare,e1,e2,e3,e4,e5⟩⟩:=hr
 ·exact absurd e hne
 ·exact ⟨b,cap,spare,e1,e2,hs,e3,e4,e5⟩
theorem isRow_block {E size:Nat} {xs:List (List Value)} {b cap:Nat} {spare:List Value} (h1:∀ x∈xs,x.length=size) (h2:xs.length≤cap) (h3:cap≤maxLen) (h4:spare.length=(cap - xs.length)*size) :
  isRow E size xs (.slice (some ⟨b,0,none⟩) xs.length cap) (pt b (.cells (xs.flatten++spare).toArray E (0,0))):=⟨h1,.inr ⟨b,cap,spare,rfl,rfl,h2,h3,h4⟩⟩
theorem row_get0 {size:Nat} {xs:List (List Value)} (h:∀ x∈xs,x.length=size) (spare:List Value) {i j:Nat} {x:List Value} {u:Value} (hx:xs[i]?=some x) (hu:x[j]?=some u) :
  (xs.flatten++spare)[0+i*size+j]?=some u:=by rw [Nat.zero_add]; exact row_get h spare hx hu
theorem row_set0 {size:Nat} {xs:List (List Value)} (h:∀ x∈xs,x.length=size) (spare:List Value) {i j:Nat} {x:List Value} (v:Value) (hx:xs[i]?=some x) (hj:j<size) :
  (xs.flatten++spare).set (0+i*size+j) v=(xs.set i (x.set j v)).flatten++spare:=by rw [Nat.zero_add]; exact row_set h spare v hx hj
theorem zeroCells_eq (z:Array Value) (m:Nat):(Builtin.zeroCells z m).toList=(List.replicate m z.toList).flatten:=by
 have:=zeros_eq z m z.size M
 unfold Builtin.zeroCells
 rw [this]
theorem ev_clear {t e:TypeId} [hu:Und P t (.slice e)] {sz by':Nat} {z:Value} [hi:Inf P e sz by' z] {x:Operand} {b off m cap:Nat} {c:List Value} {R:Hp}
  (hx:ev g x=some (.slice (some ⟨b,off,none⟩) m cap)) [hf:HasPt b L (.cells c.toArray e (0,0)) R] (hz:(z.cells.size==sz)=true) (h1:z.cells.toList.all (·.oneCell')=true) (hc:off+m*sz≤c.length) :
  EV P w0 L g (.call { callee:=.builtin .clear,args:=#[x],argTypes:=#[t] }) fun u L'=>L'=pt b (.cells (spliceL off (List.replicate m z.cells.toList).flatten c).toArray e (0,0))+R:=by
 intro o a w q ho ha hst
 obtain ⟨i,i1,i2,i3,i4⟩:=hi.out
 rw [hf.out] at hst
 have hzs:z.cells.size=sz:=by simpa using hz
 have hlen:(List.replicate m z.cells.toList).flatten.length=m*sz:=by simp [hzs]
 have hone:∀ v∈(List.replicate m z.cells.toList).flatten,v.oneCell'=true:=fun v hv=>by
  obtain ⟨l,hl,hvl⟩:=List.mem_flatten.1 hv
  rw [List.eq_of_mem_replicate hl] at hvl
  exact List.all_eq_true.1 h1 v hvl
 obtain ⟨w',e1,e2⟩:=run_storeCells (P:=P) (off:=off) (List.replicate m z.cells.toList).flatten 0 c w hst hone (by rw [hlen]; omega)
 refine ⟨.tuple #[],w',_,.inl ?_,rfl,e2⟩
 unfold execOp
 simp only [ho,resolve,invoke,builtin,ha.ev hx,List.map_toArray,List.map_cons,List.map_nil,pure_bind,Sem.run_bind]
 have key:(Builtin.clear_ #[t] o.type #[.slice (some ⟨b,off,none⟩) m cap]).run P w=.ok (.tuple #[]) w':=by
  unfold Builtin.clear_
  cases m with
  | zero =>
   simp only [List.replicate_zero,List.flatten_nil] at e1
   have:w'=w:=by
    have h2:(storeCells ⟨b,off,none⟩ [] 0).run P w=.ok () w:=by simp [storeCells]
    rw [h2] at e1
    injection e1 with _ h3
    exact h3.symm
   subst this
   simp [run_underlying hu.out]
  | succ m =>
   simp [run_underlying hu.out,zeroValue,typeInfo,i1,i4,zeroCells_eq,e1]
 simp only [key,Result.andThen_ok,Sem.run_pure]
end
theorem rd_one {w0:World} {L:Hp} {b size c:Nat} {cs:List Value} {e:TypeId} {fz:Nat × Nat} {R:Hp} [hb:HasPt b L (.cells cs.toArray e fz) R] (hs:cs.length=size):RdRow w0 L size (.slice (some ⟨b,0,none⟩) 1 c) [cs]:=by
 refine ⟨_,c,rfl,by simp [hs],fun i x hx=>⟨b,0,rfl,fun j u hu=>?_⟩⟩
 cases i with
 | succ i=>simp at hx
 | zero =>
  simp only [List.getElem?_cons_zero,Option.some.injEq] at hx
  subst hx
  simp only [Nat.zero_mul,Nat.zero_add]
  exact zS (R:=R) hu
section
variable {P:Program} {g:Env}
def cellEq (P:Program) (t:TypeId) (a b:Option Value):Option Bool :=
 match P.underlying t,a,b with
 | some (.int _),some (.int k x),some (.int k' y)=>if k=k' then some (decide (x=y)) else none
 | some .bool,some (.bool x),some (.bool y)=>some (x==y)
 | _,_,_=>none
theorem run_cellEq {t:TypeId} {xs ys:Array Value} {o:Nat} {r:Bool} (h:cellEq P t xs[o]? ys[o]?=some r) (d:Nat) (w:World) {β:Type} (f:Bool→Sem β) :
  (do let a ← part t xs o; let b ← part t ys o; let q ← Op.equalIn (d+1) t a b; f q:Sem β).run P w=(f r).run P w:=by
 unfold cellEq at h
 split at h
 ·rename_i a b q k x k' y e1 e2 e3
  split at h
  ·rename_i ek
   subst ek
   simp only [Option.some.injEq] at h
   subst h
   simp only [part,isAgg,Sem.run_bind,run_underlying e1,Result.andThen_ok,Sem.run_pure,e2,e3,Bool.false_eq_true,if_false]
   rw [show (Op.equalIn (d+1) t (.int k x) (.int k y)).run P w=.ok (x==y) w from run_equalIn_int w d t k q x y e1]
   rfl
  ·cases h
 ·rename_i a b x y e1 e2 e3
  simp only [Option.some.injEq] at h
  subst h
  simp only [part,isAgg,Sem.run_bind,run_underlying e1,Result.andThen_ok,Sem.run_pure,e2,e3,run_equalIn_bool w d t x y e1,Bool.false_eq_true,if_false]
 ·cases h
def fieldsEq (P:Program) (xs ys:Array Value):List Field→Option Bool
 | []=>some true
 | f::fs=>if f.name == "_" then none else match cellEq P f.type xs[f.offset]? ys[f.offset]?,fieldsEq P xs ys fs with
  | some r,some q=>some (r&&q)
  | _,_=>none
theorem run_fieldsEq {xs ys:Array Value} (d:Nat) (w:World):∀ {fs:List Field} {r:Bool},fieldsEq P xs ys fs=some r→(Op.eqFields (d+1) xs ys fs).run P w=.ok r w
 | [],r,h=>by simp only [fieldsEq,Option.some.injEq] at h; subst h; rfl
 | f::fs,r,h=>by
  simp only [fieldsEq] at h
  split at h
  ·cases h
  ·rename_i hn
   split at h
   ·rename_i r1 q e1 e2
    simp only [Option.some.injEq] at h
    subst h
    have hn':f.name ≠ "_" := by simpa using hn
    unfold Op.eqFields
    rw [if_pos hn',run_cellEq e1 d w]
    cases r1
    ·rfl
    ·simp only [Bool.not_true,Bool.false_eq_true,if_false,Bool.true_and]; exact run_fieldsEq d w e2
   ·cases h
theorem pv_neq_struct {t ty:TypeId} {fs:Array Field} [hu:Und P t (.struct fs)] {x y:Operand} {xs ys:List Value} {r:Bool} (hx:ev g x=some (.agg xs.toArray)) (hy:ev g y=some (.agg ys.toArray))
  (hp:P.stoodInHeld t=false) (hm:P.eqGuardType P.depth t=false) (he:fieldsEq P xs.toArray ys.toArray fs.toList=some r):PV P g (.binOp .neq t x y ty) (.bool (!r)):=by
 intro o a w m ho ha; unfold execOp
 have hf:P.fieldsOf t=fs:=by simp [Program.fieldsOf,hu.out]
 have hu':P.underlying t=some (.struct (P.fieldsOf t)):=by rw [hf]; exact hu.out
 have:=run_equalIn_agg (P:=P) w 9999 t xs.toArray ys.toArray hu' hp
 rw [hf,run_fieldsEq 9998 w he] at this
 simp only [ho,ha.ev hx,ha.ev hy,Sem.run_bind,run_eqGuard_agg _ _ _ _ _ _ _ hm,Result.andThen_ok,run_neq_struct,this,Sem.run_pure]
end
set_option maxHeartbeats 1000000
attribute [local irreducible] Hold HoldL HoldW
theorem pv_closure {P:Program} {g:Env} {k:Nat} {cap:List Operand} {vs:List Value} (h:evs g cap=some vs):PV P g (.makeFunc (.func k) #[] cap.toArray) (.func (.func k) #[] vs.toArray):=by
 intro o a w n ho ha; unfold execOp
 simp [ho,Instr.makeFunc,ha.evs h]
theorem Spec.frameL {P:Program} {w0:World} {f:FuncId} {args:List Value} {Y X R:Hp} {v:Value} (e:X=Y+R) (h:Spec P w0 f args Y (fun r h'=>r=v∧Y=h')):Spec P w0 f args X (fun r h'=>r=v∧X=h'):=by
 subst e
 intro w fr hw
 rw [hadd_assoc] at hw
 refine (h w _ hw).mono ?_
 rintro e w' ⟨u,h',he,⟨rfl,rfl⟩,hst⟩
 exact ⟨_,_,he,⟨rfl,rfl⟩,by rw [hadd_assoc]; exact hst⟩
theorem isNaN_spec (w0:World) (a:Int):Spec Tryz.prog w0 224 [.int .i64 a] 0 (fun r h'=>r=.bool false∧0=h'):=by
 refine spec_of_hold Tryz.func224 M Tryz.ntmps224 Tryz.results224 M fun fr=>?_
 repeat (first|refine zF ?_|refine zR ?_|refine yC ?_|refine zB ?_|refine zE ?_|refine zK M M M ?_|refine zY M M M M M ?_|refine L_ld M M M M M ?_|refine L_len M M M ?_|refine L_skip M M ?_|refine zP ?_|refine zM ?_|refine zJ M ?_|refine zI M ?_|refine L_add M M (by omega) (by omega) M M ?_|refine L_sub M M (by omega) (by omega) M M ?_|refine L_st M M M (c':=[_]) M M M M ?_|refine L_st M M M (c':=[_,_]) M M M M ?_|refine L_st M M M (c':=[_,_,_]) M M M M ?_|refine L_st M M M (c':=[_,_,_,_]) M M M M ?_|refine L_st M M M (c':=[_,_,_,_,_]) M M M M ?_|refine L_st M M M (c':=[_,_,_,_,_,_]) M M M M ?_|refine L_ldA M (vs:=[_,_]) M M M M M ?_|refine L_ldA M (vs:=[_,_,_]) M M M M M ?_|refine L_ldA M (vs:=[_,_,_,_]) M M M M M ?_|refine L_stA M (vs:=[_,_]) M M M M (c':=[_,_]) M M ?_|refine L_stA M (vs:=[_,_,_]) M M M M (c':=[_,_,_]) M M ?_|refine L_stA M (vs:=[_,_,_,_]) M M M M (c':=[_,_,_,_]) M M ?_|refine L_build (cells:=[_]) M M M M ?_|refine L_build (cells:=[_,_]) M M M M ?_|refine L_build (cells:=[_,_,_]) M M M M ?_|refine L_build (cells:=[_,_,_,_]) M M M M ?_|refine L_build (cells:=[_,_,_,_,_]) M M M M ?_|refine L_build (cells:=[_,_,_,_,_,_]) M M M M ?_|refine L_build (cells:=[_,_,_,_,_,_,_]) M M M M ?_|refine L_build (cells:=[_,_,_,_,_,_,_,_]) M M M M ?_)
 refine L_no M M (pv_neq M M) (by simp) ?_
 repeat (first|refine zF ?_|refine zR ?_|refine yC ?_|refine zB ?_|refine zE ?_|refine zK M M M ?_|refine zY M M M M M ?_|refine L_ld M M M M M ?_|refine L_len M M M ?_|refine L_skip M M ?_|refine zP ?_|refine zM ?_|refine zJ M ?_|refine zI M ?_|refine L_add M M (by omega) (by omega) M M ?_|refine L_sub M M (by omega) (by omega) M M ?_|refine L_st M M M (c':=[_]) M M M M ?_|refine L_st M M M (c':=[_,_]) M M M M ?_|refine L_st M M M (c':=[_,_,_]) M M M M ?_|refine L_st M M M (c':=[_,_,_,_]) M M M M ?_|refine L_st M M M (c':=[_,_,_,_,_]) M M M M ?_|refine L_st M M M (c':=[_,_,_,_,_,_]) M M M M ?_|refine L_ldA M (vs:=[_,_]) M M M M M ?_|refine L_ldA M (vs:=[_,_,_]) M M M M M ?_|refine L_ldA M (vs:=[_,_,_,_]) M M M M M ?_|refine L_stA M (vs:=[_,_]) M M M M (c':=[_,_]) M M ?_|refine L_stA M (vs:=[_,_,_]) M M M M (c':=[_,_,_]) M M ?_|refine L_stA M (vs:=[_,_,_,_]) M M M M (c':=[_,_,_,_]) M M ?_|refine L_build (cells:=[_]) M M M M ?_|refine L_build (cells:=[_,_]) M M M M ?_|refine L_build (cells:=[_,_,_]) M M M M ?_|refine L_build (cells:=[_,_,_,_]) M M M M ?_|refine L_build (cells:=[_,_,_,_,_]) M M M M ?_|refine L_build (cells:=[_,_,_,_,_,_]) M M M M ?_|refine L_build (cells:=[_,_,_,_,_,_,_]) M M M M ?_|refine L_build (cells:=[_,_,_,_,_,_,_,_]) M M M M ?_)
 exact ⟨[_],_,⟨rfl,trivial⟩,⟨rfl,rfl⟩,rfl⟩
def cmpI (a b:Int):Int:=if a<b then -1 else if b<a then 1 else 0
theorem compare_spec (w0:World) (a b:Int):Spec Tryz.prog w0 151 [.int .i64 a,.int .i64 b] 0 (fun r h'=>r=.int .i64 (cmpI a b)∧0=h'):=by
 refine zN Tryz.func151 M Tryz.ntmps151 Tryz.results151 M fun fr=>?_
 repeat (first|refine zF ?_|refine zR ?_|refine yC ?_|refine zB ?_|refine zE ?_|refine zK M M M ?_|refine zY M M M M M ?_|refine L_ld M M M M M ?_|refine L_len M M M ?_|refine L_skip M M ?_|refine zP ?_|refine zM ?_|refine zJ M ?_|refine zI M ?_|refine L_add M M (by omega) (by omega) M M ?_|refine L_sub M M (by omega) (by omega) M M ?_|refine L_st M M M (c':=[_]) M M M M ?_|refine L_st M M M (c':=[_,_]) M M M M ?_|refine L_st M M M (c':=[_,_,_]) M M M M ?_|refine L_st M M M (c':=[_,_,_,_]) M M M M ?_|refine L_st M M M (c':=[_,_,_,_,_]) M M M M ?_|refine L_st M M M (c':=[_,_,_,_,_,_]) M M M M ?_|refine L_ldA M (vs:=[_,_]) M M M M M ?_|refine L_ldA M (vs:=[_,_,_]) M M M M M ?_|refine L_ldA M (vs:=[_,_,_,_]) M M M M M ?_|refine L_stA M (vs:=[_,_]) M M M M (c':=[_,_]) M M ?_|refine L_stA M (vs:=[_,_,_]) M M M M (c':=[_,_,_]) M M ?_|refine L_stA M (vs:=[_,_,_,_]) M M M M (c':=[_,_,_,_]) M M ?_|refine L_build (cells:=[_]) M M M M ?_|refine L_build (cells:=[_,_]) M M M M ?_|refine L_build (cells:=[_,_,_]) M M M M ?_|refine L_build (cells:=[_,_,_,_]) M M M M ?_|refine L_build (cells:=[_,_,_,_,_]) M M M M ?_|refine L_build (cells:=[_,_,_,_,_,_]) M M M M ?_|refine L_build (cells:=[_,_,_,_,_,_,_]) M M M M ?_|refine L_build (cells:=[_,_,_,_,_,_,_,_]) M M M M ?_)
 refine zX M M (zQ M M M) (isNaN_spec w0 a) ?_
 rintro _ _ ⟨rfl,rfl⟩
 repeat (first|refine zF ?_|refine zR ?_|refine yC ?_|refine zB ?_|refine zE ?_|refine zK M M M ?_|refine zY M M M M M ?_|refine L_ld M M M M M ?_|refine L_len M M M ?_|refine L_skip M M ?_|refine zP ?_|refine zM ?_|refine zJ M ?_|refine zI M ?_|refine L_add M M (by omega) (by omega) M M ?_|refine L_sub M M (by omega) (by omega) M M ?_|refine L_st M M M (c':=[_]) M M M M ?_|refine L_st M M M (c':=[_,_]) M M M M ?_|refine L_st M M M (c':=[_,_,_]) M M M M ?_|refine L_st M M M (c':=[_,_,_,_]) M M M M ?_|refine L_st M M M (c':=[_,_,_,_,_]) M M M M ?_|refine L_st M M M (c':=[_,_,_,_,_,_]) M M M M ?_|refine L_ldA M (vs:=[_,_]) M M M M M ?_|refine L_ldA M (vs:=[_,_,_]) M M M M M ?_|refine L_ldA M (vs:=[_,_,_,_]) M M M M M ?_|refine L_stA M (vs:=[_,_]) M M M M (c':=[_,_]) M M ?_|refine L_stA M (vs:=[_,_,_]) M M M M (c':=[_,_,_]) M M ?_|refine L_stA M (vs:=[_,_,_,_]) M M M M (c':=[_,_,_,_]) M M ?_|refine L_build (cells:=[_]) M M M M ?_|refine L_build (cells:=[_,_]) M M M M ?_|refine L_build (cells:=[_,_,_]) M M M M ?_|refine L_build (cells:=[_,_,_,_]) M M M M ?_|refine L_build (cells:=[_,_,_,_,_]) M M M M ?_|refine L_build (cells:=[_,_,_,_,_,_]) M M M M ?_|refine L_build (cells:=[_,_,_,_,_,_,_]) M M M M ?_|refine L_build (cells:=[_,_,_,_,_,_,_,_]) M M M M ?_)
 refine zX M M (zQ M M M) (isNaN_spec w0 b) ?_
 rintro _ _ ⟨rfl,rfl⟩
 repeat (first|refine zF ?_|refine zR ?_|refine yC ?_|refine zB ?_|refine zE ?_|refine zK M M M ?_|refine zY M M M M M ?_|refine L_ld M M M M M ?_|refine L_len M M M ?_|refine L_skip M M ?_|refine zP ?_|refine zM ?_|refine zJ M ?_|refine zI M ?_|refine L_add M M (by omega) (by omega) M M ?_|refine L_sub M M (by omega) (by omega) M M ?_|refine L_st M M M (c':=[_]) M M M M ?_|refine L_st M M M (c':=[_,_]) M M M M ?_|refine L_st M M M (c':=[_,_,_]) M M M M ?_|refine L_st M M M (c':=[_,_,_,_]) M M M M ?_|refine L_st M M M (c':=[_,_,_,_,_]) M M M M ?_|refine L_st M M M (c':=[_,_,_,_,_,_]) M M M M ?_|refine L_ldA M (vs:=[_,_]) M M M M M ?_|refine L_ldA M (vs:=[_,_,_]) M M M M M ?_|refine L_ldA M (vs:=[_,_,_,_]) M M M M M ?_|refine L_stA M (vs:=[_,_]) M M M M (c':=[_,_]) M M ?_|refine L_stA M (vs:=[_,_,_]) M M M M (c':=[_,_,_]) M M ?_|refine L_stA M (vs:=[_,_,_,_]) M M M M (c':=[_,_,_,_]) M M ?_|refine L_build (cells:=[_]) M M M M ?_|refine L_build (cells:=[_,_]) M M M M ?_|refine L_build (cells:=[_,_,_]) M M M M ?_|refine L_build (cells:=[_,_,_,_]) M M M M ?_|refine L_build (cells:=[_,_,_,_,_]) M M M M ?_|refine L_build (cells:=[_,_,_,_,_,_]) M M M M ?_|refine L_build (cells:=[_,_,_,_,_,_,_]) M M M M ?_|refine L_build (cells:=[_,_,_,_,_,_,_,_]) M M M M ?_)
 unfold cmpI
 refine yF M M (pv_lss M M) (fun h1=>?_) (fun h1=>?_)
 ·repeat (first|refine zF ?_|refine zR ?_|refine yC ?_|refine zB ?_|refine zE ?_|refine zK M M M ?_|refine zY M M M M M ?_|refine L_ld M M M M M ?_|refine L_len M M M ?_|refine L_skip M M ?_|refine zP ?_|refine zM ?_|refine zJ M ?_|refine zI M ?_|refine L_add M M (by omega) (by omega) M M ?_|refine L_sub M M (by omega) (by omega) M M ?_|refine L_st M M M (c':=[_]) M M M M ?_|refine L_st M M M (c':=[_,_]) M M M M ?_|refine L_st M M M (c':=[_,_,_]) M M M M ?_|refine L_st M M M (c':=[_,_,_,_]) M M M M ?_|refine L_st M M M (c':=[_,_,_,_,_]) M M M M ?_|refine L_st M M M (c':=[_,_,_,_,_,_]) M M M M ?_|refine L_ldA M (vs:=[_,_]) M M M M M ?_|refine L_ldA M (vs:=[_,_,_]) M M M M M ?_|refine L_ldA M (vs:=[_,_,_,_]) M M M M M ?_|refine L_stA M (vs:=[_,_]) M M M M (c':=[_,_]) M M ?_|refine L_stA M (vs:=[_,_,_]) M M M M (c':=[_,_,_]) M M ?_|refine L_stA M (vs:=[_,_,_,_]) M M M M (c':=[_,_,_,_]) M M ?_|refine L_build (cells:=[_]) M M M M ?_|refine L_build (cells:=[_,_]) M M M M ?_|refine L_build (cells:=[_,_,_]) M M M M ?_|refine L_build (cells:=[_,_,_,_]) M M M M ?_|refine L_build (cells:=[_,_,_,_,_]) M M M M ?_|refine L_build (cells:=[_,_,_,_,_,_]) M M M M ?_|refine L_build (cells:=[_,_,_,_,_,_,_]) M M M M ?_|refine L_build (cells:=[_,_,_,_,_,_,_,_]) M M M M ?_)
  exact ⟨[_],0,_,⟨rfl,trivial⟩,⟨by rw [if_pos h1]; rfl,rfl⟩,yJ.out⟩
 ·repeat (first|refine zF ?_|refine zR ?_|refine yC ?_|refine zB ?_|refine zE ?_|refine zK M M M ?_|refine zY M M M M M ?_|refine L_ld M M M M M ?_|refine L_len M M M ?_|refine L_skip M M ?_|refine zP ?_|refine zM ?_|refine zJ M ?_|refine zI M ?_|refine L_add M M (by omega) (by omega) M M ?_|refine L_sub M M (by omega) (by omega) M M ?_|refine L_st M M M (c':=[_]) M M M M ?_|refine L_st M M M (c':=[_,_]) M M M M ?_|refine L_st M M M (c':=[_,_,_]) M M M M ?_|refine L_st M M M (c':=[_,_,_,_]) M M M M ?_|refine L_st M M M (c':=[_,_,_,_,_]) M M M M ?_|refine L_st M M M (c':=[_,_,_,_,_,_]) M M M M ?_|refine L_ldA M (vs:=[_,_]) M M M M M ?_|refine L_ldA M (vs:=[_,_,_]) M M M M M ?_|refine L_ldA M (vs:=[_,_,_,_]) M M M M M ?_|refine L_stA M (vs:=[_,_]) M M M M (c':=[_,_]) M M ?_|refine L_stA M (vs:=[_,_,_]) M M M M (c':=[_,_,_]) M M ?_|refine L_stA M (vs:=[_,_,_,_]) M M M M (c':=[_,_,_,_]) M M ?_|refine L_build (cells:=[_]) M M M M ?_|refine L_build (cells:=[_,_]) M M M M ?_|refine L_build (cells:=[_,_,_]) M M M M ?_|refine L_build (cells:=[_,_,_,_]) M M M M ?_|refine L_build (cells:=[_,_,_,_,_]) M M M M ?_|refine L_build (cells:=[_,_,_,_,_,_]) M M M M ?_|refine L_build (cells:=[_,_,_,_,_,_,_]) M M M M ?_|refine L_build (cells:=[_,_,_,_,_,_,_,_]) M M M M ?_)
  refine yF M M (pv_gtr M M) (fun h2=>?_) (fun h2=>?_)
  ·repeat (first|refine zF ?_|refine zR ?_|refine yC ?_|refine zB ?_|refine zE ?_|refine zK M M M ?_|refine zY M M M M M ?_|refine L_ld M M M M M ?_|refine L_len M M M ?_|refine L_skip M M ?_|refine zP ?_|refine zM ?_|refine zJ M ?_|refine zI M ?_|refine L_add M M (by omega) (by omega) M M ?_|refine L_sub M M (by omega) (by omega) M M ?_|refine L_st M M M (c':=[_]) M M M M ?_|refine L_st M M M (c':=[_,_]) M M M M ?_|refine L_st M M M (c':=[_,_,_]) M M M M ?_|refine L_st M M M (c':=[_,_,_,_]) M M M M ?_|refine L_st M M M (c':=[_,_,_,_,_]) M M M M ?_|refine L_st M M M (c':=[_,_,_,_,_,_]) M M M M ?_|refine L_ldA M (vs:=[_,_]) M M M M M ?_|refine L_ldA M (vs:=[_,_,_]) M M M M M ?_|refine L_ldA M (vs:=[_,_,_,_]) M M M M M ?_|refine L_stA M (vs:=[_,_]) M M M M (c':=[_,_]) M M ?_|refine L_stA M (vs:=[_,_,_]) M M M M (c':=[_,_,_]) M M ?_|refine L_stA M (vs:=[_,_,_,_]) M M M M (c':=[_,_,_,_]) M M ?_|refine L_build (cells:=[_]) M M M M ?_|refine L_build (cells:=[_,_]) M M M M ?_|refine L_build (cells:=[_,_,_]) M M M M ?_|refine L_build (cells:=[_,_,_,_]) M M M M ?_|refine L_build (cells:=[_,_,_,_,_]) M M M M ?_|refine L_build (cells:=[_,_,_,_,_,_]) M M M M ?_|refine L_build (cells:=[_,_,_,_,_,_,_]) M M M M ?_|refine L_build (cells:=[_,_,_,_,_,_,_,_]) M M M M ?_)
   exact ⟨[_],0,_,⟨rfl,trivial⟩,⟨by rw [if_neg h1,if_pos h2]; rfl,rfl⟩,yJ.out⟩
  ·repeat (first|refine zF ?_|refine zR ?_|refine yC ?_|refine zB ?_|refine zE ?_|refine zK M M M ?_|refine zY M M M M M ?_|refine L_ld M M M M M ?_|refine L_len M M M ?_|refine L_skip M M ?_|refine zP ?_|refine zM ?_|refine zJ M ?_|refine zI M ?_|refine L_add M M (by omega) (by omega) M M ?_|refine L_sub M M (by omega) (by omega) M M ?_|refine L_st M M M (c':=[_]) M M M M ?_|refine L_st M M M (c':=[_,_]) M M M M ?_|refine L_st M M M (c':=[_,_,_]) M M M M ?_|refine L_st M M M (c':=[_,_,_,_]) M M M M ?_|refine L_st M M M (c':=[_,_,_,_,_]) M M M M ?_|refine L_st M M M (c':=[_,_,_,_,_,_]) M M M M ?_|refine L_ldA M (vs:=[_,_]) M M M M M ?_|refine L_ldA M (vs:=[_,_,_]) M M M M M ?_|refine L_ldA M (vs:=[_,_,_,_]) M M M M M ?_|refine L_stA M (vs:=[_,_]) M M M M (c':=[_,_]) M M ?_|refine L_stA M (vs:=[_,_,_]) M M M M (c':=[_,_,_]) M M ?_|refine L_stA M (vs:=[_,_,_,_]) M M M M (c':=[_,_,_,_]) M M ?_|refine L_build (cells:=[_]) M M M M ?_|refine L_build (cells:=[_,_]) M M M M ?_|refine L_build (cells:=[_,_,_]) M M M M ?_|refine L_build (cells:=[_,_,_,_]) M M M M ?_|refine L_build (cells:=[_,_,_,_,_]) M M M M ?_|refine L_build (cells:=[_,_,_,_,_,_]) M M M M ?_|refine L_build (cells:=[_,_,_,_,_,_,_]) M M M M ?_|refine L_build (cells:=[_,_,_,_,_,_,_,_]) M M M M ?_)
   exact ⟨[_],0,_,⟨rfl,trivial⟩,⟨by rw [if_neg h1,if_neg h2]; rfl,rfl⟩,yJ.out⟩
theorem indexI_spec (w0:World) (X:Hp) (v:Value) (xs:List Int) (p:Int) (hv:RdRow w0 X 1 v (enc1 xs)) (hl:xs.length≤1000000000) :
  Spec Tryz.prog w0 203 [v,.int .i64 p] X (fun r h'=>∃ i:Int,r=.int .i64 i∧(0≤i↔p∈xs)∧X=h'):=by
 obtain ⟨a,c,rfl,ha⟩:=id hv
 rw [enc1_length] at *
 refine zN Tryz.func203 M Tryz.ntmps203 Tryz.results203 M fun fr=>?_
 repeat (first|refine zF ?_|refine zR ?_|refine yC ?_|refine zB ?_|refine zE ?_|refine zK M M M ?_|refine zY M M M M M ?_|refine L_ld M M M M M ?_|refine L_len M M M ?_|refine L_skip M M ?_|refine zP ?_|refine zM ?_|refine zJ M ?_|refine zI M ?_|refine L_add M M (by omega) (by omega) M M ?_|refine L_sub M M (by omega) (by omega) M M ?_|refine L_st M M M (c':=[_]) M M M M ?_|refine L_st M M M (c':=[_,_]) M M M M ?_|refine L_st M M M (c':=[_,_,_]) M M M M ?_|refine L_st M M M (c':=[_,_,_,_]) M M M M ?_|refine L_st M M M (c':=[_,_,_,_,_]) M M M M ?_|refine L_st M M M (c':=[_,_,_,_,_,_]) M M M M ?_|refine L_ldA M (vs:=[_,_]) M M M M M ?_|refine L_ldA M (vs:=[_,_,_]) M M M M M ?_|refine L_ldA M (vs:=[_,_,_,_]) M M M M M ?_|refine L_stA M (vs:=[_,_]) M M M M (c':=[_,_]) M M ?_|refine L_stA M (vs:=[_,_,_]) M M M M (c':=[_,_,_]) M M ?_|refine L_stA M (vs:=[_,_,_,_]) M M M M (c':=[_,_,_,_]) M M ?_|refine L_build (cells:=[_]) M M M M ?_|refine L_build (cells:=[_,_]) M M M M ?_|refine L_build (cells:=[_,_,_]) M M M M ?_|refine L_build (cells:=[_,_,_,_]) M M M M ?_|refine L_build (cells:=[_,_,_,_,_]) M M M M ?_|refine L_build (cells:=[_,_,_,_,_,_]) M M M M ?_|refine L_build (cells:=[_,_,_,_,_,_,_]) M M M M ?_|refine L_build (cells:=[_,_,_,_,_,_,_,_]) M M M M ?_)
 refine hold_loop (fun m g L=>∃ k:Nat,k≤xs.length∧m=xs.length - k∧g=[(0,.slice a xs.length c),(1,.int .i64 p),(7,.int .i64 xs.length),(8,.int .i64 k)]∧L=X+fr∧p∉xs.take k) _ _ ⟨0,by omega,rfl,rfl,rfl,by simp⟩ (by repeat (first|exact zT _|refine zO M ?_)) ?_
 rintro m g L ⟨k,hk,rfl,rfl,rfl,hpre⟩
 repeat (first|refine zF ?_|refine zR ?_|refine yC ?_|refine zB ?_|refine zE ?_|refine zK M M M ?_|refine zY M M M M M ?_|refine L_ld M M M M M ?_|refine L_len M M M ?_|refine L_skip M M ?_|refine zP ?_|refine zM ?_|refine zJ M ?_|refine zI M ?_|refine L_add M M (by omega) (by omega) M M ?_|refine L_sub M M (by omega) (by omega) M M ?_|refine L_st M M M (c':=[_]) M M M M ?_|refine L_st M M M (c':=[_,_]) M M M M ?_|refine L_st M M M (c':=[_,_,_]) M M M M ?_|refine L_st M M M (c':=[_,_,_,_]) M M M M ?_|refine L_st M M M (c':=[_,_,_,_,_]) M M M M ?_|refine L_st M M M (c':=[_,_,_,_,_,_]) M M M M ?_|refine L_ldA M (vs:=[_,_]) M M M M M ?_|refine L_ldA M (vs:=[_,_,_]) M M M M M ?_|refine L_ldA M (vs:=[_,_,_,_]) M M M M M ?_|refine L_stA M (vs:=[_,_]) M M M M (c':=[_,_]) M M ?_|refine L_stA M (vs:=[_,_,_]) M M M M (c':=[_,_,_]) M M ?_|refine L_stA M (vs:=[_,_,_,_]) M M M M (c':=[_,_,_,_]) M M ?_|refine L_build (cells:=[_]) M M M M ?_|refine L_build (cells:=[_,_]) M M M M ?_|refine L_build (cells:=[_,_,_]) M M M M ?_|refine L_build (cells:=[_,_,_,_]) M M M M ?_|refine L_build (cells:=[_,_,_,_,_]) M M M M ?_|refine L_build (cells:=[_,_,_,_,_,_]) M M M M ?_|refine L_build (cells:=[_,_,_,_,_,_,_]) M M M M ?_|refine L_build (cells:=[_,_,_,_,_,_,_,_]) M M M M ?_)
 refine yF M M (pv_lss M M) (fun h2=>?_) (fun h2=>?_)
 ·have hx:k<xs.length:=by omega
  obtain ⟨b2,o2,rfl,hc2⟩:=ha.2 k _ (enc1_at hx)
  repeat (first|refine zF ?_|refine zR ?_|refine yC ?_|refine zB ?_|refine zE ?_|refine zK M M M ?_|refine zY M M M M M ?_|refine L_ld M M M M M ?_|refine L_len M M M ?_|refine L_skip M M ?_|refine zP ?_|refine zM ?_|refine zJ M ?_|refine zI M ?_|refine L_add M M (by omega) (by omega) M M ?_|refine L_sub M M (by omega) (by omega) M M ?_|refine L_st M M M (c':=[_]) M M M M ?_|refine L_st M M M (c':=[_,_]) M M M M ?_|refine L_st M M M (c':=[_,_,_]) M M M M ?_|refine L_st M M M (c':=[_,_,_,_]) M M M M ?_|refine L_st M M M (c':=[_,_,_,_,_]) M M M M ?_|refine L_st M M M (c':=[_,_,_,_,_,_]) M M M M ?_|refine L_ldA M (vs:=[_,_]) M M M M M ?_|refine L_ldA M (vs:=[_,_,_]) M M M M M ?_|refine L_ldA M (vs:=[_,_,_,_]) M M M M M ?_|refine L_stA M (vs:=[_,_]) M M M M (c':=[_,_]) M M ?_|refine L_stA M (vs:=[_,_,_]) M M M M (c':=[_,_,_]) M M ?_|refine L_stA M (vs:=[_,_,_,_]) M M M M (c':=[_,_,_,_]) M M ?_|refine L_build (cells:=[_]) M M M M ?_|refine L_build (cells:=[_,_]) M M M M ?_|refine L_build (cells:=[_,_,_]) M M M M ?_|refine L_build (cells:=[_,_,_,_]) M M M M ?_|refine L_build (cells:=[_,_,_,_,_]) M M M M ?_|refine L_build (cells:=[_,_,_,_,_,_]) M M M M ?_|refine L_build (cells:=[_,_,_,_,_,_,_]) M M M M ?_|refine L_build (cells:=[_,_,_,_,_,_,_,_]) M M M M ?_)
  refine yG M M (pv_indexAddr M M hx) ?_
  refine L_load M M (yE M) (zG M ((hc2 0 _ rfl).frame)) ?_
  refine yF M M (pv_eql M M) (fun h3=>?_) (fun h3=>?_)
  ·repeat (first|refine zF ?_|refine zR ?_|refine yC ?_|refine zB ?_|refine zE ?_|refine zK M M M ?_|refine zY M M M M M ?_|refine L_ld M M M M M ?_|refine L_len M M M ?_|refine L_skip M M ?_|refine zP ?_|refine zM ?_|refine zJ M ?_|refine zI M ?_|refine L_add M M (by omega) (by omega) M M ?_|refine L_sub M M (by omega) (by omega) M M ?_|refine L_st M M M (c':=[_]) M M M M ?_|refine L_st M M M (c':=[_,_]) M M M M ?_|refine L_st M M M (c':=[_,_,_]) M M M M ?_|refine L_st M M M (c':=[_,_,_,_]) M M M M ?_|refine L_st M M M (c':=[_,_,_,_,_]) M M M M ?_|refine L_st M M M (c':=[_,_,_,_,_,_]) M M M M ?_|refine L_ldA M (vs:=[_,_]) M M M M M ?_|refine L_ldA M (vs:=[_,_,_]) M M M M M ?_|refine L_ldA M (vs:=[_,_,_,_]) M M M M M ?_|refine L_stA M (vs:=[_,_]) M M M M (c':=[_,_]) M M ?_|refine L_stA M (vs:=[_,_,_]) M M M M (c':=[_,_,_]) M M ?_|refine L_stA M (vs:=[_,_,_,_]) M M M M (c':=[_,_,_,_]) M M ?_|refine L_build (cells:=[_]) M M M M ?_|refine L_build (cells:=[_,_]) M M M M ?_|refine L_build (cells:=[_,_,_]) M M M M ?_|refine L_build (cells:=[_,_,_,_]) M M M M ?_|refine L_build (cells:=[_,_,_,_,_]) M M M M ?_|refine L_build (cells:=[_,_,_,_,_,_]) M M M M ?_|refine L_build (cells:=[_,_,_,_,_,_,_]) M M M M ?_|refine L_build (cells:=[_,_,_,_,_,_,_,_]) M M M M ?_)
   exact ⟨[_],X,_,⟨rfl,trivial⟩,⟨_,rfl,⟨fun _=>by rw [h3,show xs.getD k 0=xs[k] by simp [List.getD,hx]]; exact List.getElem_mem hx,fun _=>by omega⟩,rfl⟩,yJ.out⟩
  ·repeat (first|refine zF ?_|refine zR ?_|refine yC ?_|refine zB ?_|refine zE ?_|refine zK M M M ?_|refine zY M M M M M ?_|refine L_ld M M M M M ?_|refine L_len M M M ?_|refine L_skip M M ?_|refine zP ?_|refine zM ?_|refine zJ M ?_|refine zI M ?_|refine L_add M M (by omega) (by omega) M M ?_|refine L_sub M M (by omega) (by omega) M M ?_|refine L_st M M M (c':=[_]) M M M M ?_|refine L_st M M M (c':=[_,_]) M M M M ?_|refine L_st M M M (c':=[_,_,_]) M M M M ?_|refine L_st M M M (c':=[_,_,_,_]) M M M M ?_|refine L_st M M M (c':=[_,_,_,_,_]) M M M M ?_|refine L_st M M M (c':=[_,_,_,_,_,_]) M M M M ?_|refine L_ldA M (vs:=[_,_]) M M M M M ?_|refine L_ldA M (vs:=[_,_,_]) M M M M M ?_|refine L_ldA M (vs:=[_,_,_,_]) M M M M M ?_|refine L_stA M (vs:=[_,_]) M M M M (c':=[_,_]) M M ?_|refine L_stA M (vs:=[_,_,_]) M M M M (c':=[_,_,_]) M M ?_|refine L_stA M (vs:=[_,_,_,_]) M M M M (c':=[_,_,_,_]) M M ?_|refine L_build (cells:=[_]) M M M M ?_|refine L_build (cells:=[_,_]) M M M M ?_|refine L_build (cells:=[_,_,_]) M M M M ?_|refine L_build (cells:=[_,_,_,_]) M M M M ?_|refine L_build (cells:=[_,_,_,_,_]) M M M M ?_|refine L_build (cells:=[_,_,_,_,_,_]) M M M M ?_|refine L_build (cells:=[_,_,_,_,_,_,_]) M M M M ?_|refine L_build (cells:=[_,_,_,_,_,_,_,_]) M M M M ?_)
   rw [show xs.getD k 0=xs[k] by simp [List.getD,hx]] at h3
   exact ⟨xs.length - (k+1),_,by omega,(by repeat (first|exact zT _|refine zO M ?_)),k+1,by omega,rfl,rfl,rfl,by rw [List.take_succ_eq_append_getElem hx,List.mem_append,List.mem_singleton]; exact fun h=>h.elim hpre h3⟩
 ·repeat (first|refine zF ?_|refine zR ?_|refine yC ?_|refine zB ?_|refine zE ?_|refine zK M M M ?_|refine zY M M M M M ?_|refine L_ld M M M M M ?_|refine L_len M M M ?_|refine L_skip M M ?_|refine zP ?_|refine zM ?_|refine zJ M ?_|refine zI M ?_|refine L_add M M (by omega) (by omega) M M ?_|refine L_sub M M (by omega) (by omega) M M ?_|refine L_st M M M (c':=[_]) M M M M ?_|refine L_st M M M (c':=[_,_]) M M M M ?_|refine L_st M M M (c':=[_,_,_]) M M M M ?_|refine L_st M M M (c':=[_,_,_,_]) M M M M ?_|refine L_st M M M (c':=[_,_,_,_,_]) M M M M ?_|refine L_st M M M (c':=[_,_,_,_,_,_]) M M M M ?_|refine L_ldA M (vs:=[_,_]) M M M M M ?_|refine L_ldA M (vs:=[_,_,_]) M M M M M ?_|refine L_ldA M (vs:=[_,_,_,_]) M M M M M ?_|refine L_stA M (vs:=[_,_]) M M M M (c':=[_,_]) M M ?_|refine L_stA M (vs:=[_,_,_]) M M M M (c':=[_,_,_]) M M ?_|refine L_stA M (vs:=[_,_,_,_]) M M M M (c':=[_,_,_,_]) M M ?_|refine L_build (cells:=[_]) M M M M ?_|refine L_build (cells:=[_,_]) M M M M ?_|refine L_build (cells:=[_,_,_]) M M M M ?_|refine L_build (cells:=[_,_,_,_]) M M M M ?_|refine L_build (cells:=[_,_,_,_,_]) M M M M ?_|refine L_build (cells:=[_,_,_,_,_,_]) M M M M ?_|refine L_build (cells:=[_,_,_,_,_,_,_]) M M M M ?_|refine L_build (cells:=[_,_,_,_,_,_,_,_]) M M M M ?_)
  rw [List.take_of_length_le (by omega)] at hpre
  exact ⟨[_],X,_,⟨rfl,trivial⟩,⟨_,rfl,⟨fun h=>by omega,fun h=>absurd h hpre⟩,rfl⟩,yJ.out⟩
theorem containsI_spec (w0:World) (X:Hp) (v:Value) (xs:List Int) (p:Int) (hv:RdRow w0 X 1 v (enc1 xs)) (hl:xs.length≤1000000000) :
  Spec Tryz.prog w0 115 [v,.int .i64 p] X (fun r h'=>r=.bool (decide (p∈xs))∧X=h'):=by
 have hi:=indexI_spec w0 X v xs p hv hl
 obtain ⟨a,c,rfl⟩:=hv.shape
 refine zN Tryz.func115 M Tryz.ntmps115 Tryz.results115 M fun fr=>?_
 repeat (first|refine zF ?_|refine zR ?_|refine yC ?_|refine zB ?_|refine zE ?_|refine zK M M M ?_|refine zY M M M M M ?_|refine L_ld M M M M M ?_|refine L_len M M M ?_|refine L_skip M M ?_|refine zP ?_|refine zM ?_|refine zJ M ?_|refine zI M ?_|refine L_add M M (by omega) (by omega) M M ?_|refine L_sub M M (by omega) (by omega) M M ?_|refine L_st M M M (c':=[_]) M M M M ?_|refine L_st M M M (c':=[_,_]) M M M M ?_|refine L_st M M M (c':=[_,_,_]) M M M M ?_|refine L_st M M M (c':=[_,_,_,_]) M M M M ?_|refine L_st M M M (c':=[_,_,_,_,_]) M M M M ?_|refine L_st M M M (c':=[_,_,_,_,_,_]) M M M M ?_|refine L_ldA M (vs:=[_,_]) M M M M M ?_|refine L_ldA M (vs:=[_,_,_]) M M M M M ?_|refine L_ldA M (vs:=[_,_,_,_]) M M M M M ?_|refine L_stA M (vs:=[_,_]) M M M M (c':=[_,_]) M M ?_|refine L_stA M (vs:=[_,_,_]) M M M M (c':=[_,_,_]) M M ?_|refine L_stA M (vs:=[_,_,_,_]) M M M M (c':=[_,_,_,_]) M M ?_|refine L_build (cells:=[_]) M M M M ?_|refine L_build (cells:=[_,_]) M M M M ?_|refine L_build (cells:=[_,_,_]) M M M M ?_|refine L_build (cells:=[_,_,_,_]) M M M M ?_|refine L_build (cells:=[_,_,_,_,_]) M M M M ?_|refine L_build (cells:=[_,_,_,_,_,_]) M M M M ?_|refine L_build (cells:=[_,_,_,_,_,_,_]) M M M M ?_|refine L_build (cells:=[_,_,_,_,_,_,_,_]) M M M M ?_)
 refine zX M M (zQ M M M) hi ?_
 rintro _ _ ⟨i,rfl,hiff,rfl⟩
 refine yG M M (pv_geq M M) ?_
 repeat (first|refine zF ?_|refine zR ?_|refine yC ?_|refine zB ?_|refine zE ?_|refine zK M M M ?_|refine zY M M M M M ?_|refine L_ld M M M M M ?_|refine L_len M M M ?_|refine L_skip M M ?_|refine zP ?_|refine zM ?_|refine zJ M ?_|refine zI M ?_|refine L_add M M (by omega) (by omega) M M ?_|refine L_sub M M (by omega) (by omega) M M ?_|refine L_st M M M (c':=[_]) M M M M ?_|refine L_st M M M (c':=[_,_]) M M M M ?_|refine L_st M M M (c':=[_,_,_]) M M M M ?_|refine L_st M M M (c':=[_,_,_,_]) M M M M ?_|refine L_st M M M (c':=[_,_,_,_,_]) M M M M ?_|refine L_st M M M (c':=[_,_,_,_,_,_]) M M M M ?_|refine L_ldA M (vs:=[_,_]) M M M M M ?_|refine L_ldA M (vs:=[_,_,_]) M M M M M ?_|refine L_ldA M (vs:=[_,_,_,_]) M M M M M ?_|refine L_stA M (vs:=[_,_]) M M M M (c':=[_,_]) M M ?_|refine L_stA M (vs:=[_,_,_]) M M M M (c':=[_,_,_]) M M ?_|refine L_stA M (vs:=[_,_,_,_]) M M M M (c':=[_,_,_,_]) M M ?_|refine L_build (cells:=[_]) M M M M ?_|refine L_build (cells:=[_,_]) M M M M ?_|refine L_build (cells:=[_,_,_]) M M M M ?_|refine L_build (cells:=[_,_,_,_]) M M M M ?_|refine L_build (cells:=[_,_,_,_,_]) M M M M ?_|refine L_build (cells:=[_,_,_,_,_,_]) M M M M ?_|refine L_build (cells:=[_,_,_,_,_,_,_]) M M M M ?_|refine L_build (cells:=[_,_,_,_,_,_,_,_]) M M M M ?_)
 exact ⟨[_],X,_,⟨rfl,trivial⟩,⟨congrArg Value.bool (decide_eq_decide.2 hiff),rfl⟩,yJ.out⟩
end Sl
end Go.Proofs.YtfahijncpmlhjaaGreat
namespace Go.Proofs.YtfahijncpmlhjaaGreat
open Go Go.RowKit
namespace Sl
section
variable {P:Program} {w0:World} {L:Hp} {g:Env}
theorem pv_cap {t e:TypeId} [hu:Und P t (.slice e)] {x:Operand} {ad:Option Addr} {len cap:Nat} (hx:ev g x=some (.slice ad len cap)) :
  PV P g (.call { callee:=.builtin .cap,args:=#[x],argTypes:=#[t] }) (.int .i64 cap):=by
 intro o a w n ho ha
 unfold execOp
 simp [ho,resolve,invoke,builtin,ha.ev hx,Builtin.cap_,run_underlying hu.out,goInt]
theorem ev_copy {t e:TypeId} [hu:Und P t (.slice e)] {sz by':Nat} {z:Value} [hi:Inf P e sz by' z] {x y:Operand} {v2:Value} {ns:List (List Value)} {b o dLen dCap n:Nat} {c:List Value} {R:Hp}
  (hx:ev g x=some (.slice (some ⟨b,o,none⟩) dLen dCap)) (hy:ev g y=some v2) (hn:RdRow w0 L sz v2 ns) (h1:∀ x∈ns.take n,∀ u∈x,u.oneCell'=true)
  [hf:HasPt b L (.cells c.toArray e (0,0)) R] (hmin:Nat.min ns.length dLen=n) (hpos:0<n) (hsz:0<sz) (hfit:o+n*sz≤c.length) :
  EV P w0 L g (.call { callee:=.builtin .copy,args:=#[x,y],argTypes:=#[t,t] }) fun u L'=>u=.int .i64 n ∧
   L'=pt b (.cells (c.take o++(ns.take n).flatten++c.drop (o+n*sz)).toArray e (0,0))+R:=by
 intro op a w m ho ha hst
 obtain ⟨i,i1,i2,i3,i4⟩:=hi.out
 obtain ⟨ad2,c2,rfl,hn⟩:=hn
 have hnl:n≤ns.length:=by rw [← hmin]; exact Nat.min_le_left _ _
 have hlen:(ns.take n).flatten.length=n*sz:=by rw [length_flat (fun x hx=>hn.1 x (List.mem_of_mem_take hx)),List.length_take,Nat.min_eq_left hnl]
 obtain ⟨b2,o2,rfl,_⟩:=hn.2 0 ns[0] (List.getElem?_eq_getElem (by omega))
 have hsrc:∀ j v,(ns.take n).flatten[j]?=some v→w.cell? ((⟨b2,o2,none⟩:Addr).add j)=some v:=by
  intro j v hv
  have hv':ns.flatten[j]?=some v:=by
   have hj:=(List.getElem?_eq_some_iff.1 hv).1
   have e1:ns.flatten=(ns.take n).flatten++(ns.drop n).flatten:=by rw [← List.flatten_append,List.take_append_drop]
   rw [e1,List.getElem?_append_left hj]; exact hv
  obtain ⟨b3,o3,e3,hr⟩:=hn.flat hv'
  cases e3
  rw [add_none]; exact hr w hst
 have hheap:=hst.at hf
 have hl:=run_loadCells_list (P:=P) (w:=w) ⟨b2,o2,none⟩ (ns.take n).flatten hsrc
 have h1':∀ v∈(ns.take n).flatten,v.oneCell'=true:=fun u hu=>by
  obtain ⟨q,hq,hum⟩:=List.mem_flatten.1 hu
  exact h1 q hq u hum
 have hs:=run_storeCells_at (P:=P) b o e (ns.take n).flatten 0 c.toArray w hheap (by simp only [Nat.add_zero,List.size_toArray,hlen]; exact hfit) h1'
 have hst':St w0 w (pt b (.cells c.toArray e (0,0))+R):=by rw [hf.out] at hst; exact hst
 refine ⟨.int .i64 n,w.setRow b (c.toArray.toList.take o++(ns.take n).flatten++c.toArray.toList.drop (o+(ns.take n).flatten.length)).toArray,_,.inl ?_,⟨rfl,rfl⟩,?_⟩
 ·unfold execOp
  simp only [ho,resolve,invoke,builtin,ha.ev hx,ha.ev hy,List.map_toArray,List.map_cons,List.map_nil,pure_bind]
  simp only [hlen] at hl
  simp only [hlen,Nat.add_zero] at hs ⊢
  simp [Builtin.copy_,run_underlying hu.out,Builtin.lenOf,Builtin.firstCells,sizeOf,typeInfo,i1,i2,hmin,hl,hs,goInt]
 ·refine hst'.set ?_ (fun k hk=>setRow_other w b k _ hk) (by simp) M M M
  rw [setRow_heap w b _ _ e (0,0) hheap,hlen]
theorem ev_append_zeros {t tn e:TypeId} [hu:Und P t (.slice e)] [hun:Und P tn (.int .i64)] {sz by':Nat} {z:Value} [hi:Inf P e sz by' z] {x y:Operand} {b nx cap k:Nat} {c olds:List Value} {R:Hp}
  (hx:ev g x=some (.slice (some ⟨b,0,none⟩) nx cap)) (hy:ev g y=some (.int .i64 (k:Int))) [hf:HasPt b L (.cells c.toArray e (0,0)) R] (hold:c.take (nx*sz)=olds) (hnx:nx*sz≤c.length) (hk:0<k)
  (hsz:(sz==0)=false) (hzs:(z.cells.size==sz)=true) (hroom:cap<nx+k) (hby:(by'==0)=false) (hb:(nx+k)*by'≤140737488355328) :
  EV P w0 L g (.call { callee:=.builtin .append,args:=#[x,y],argTypes:=#[t,tn] }) fun u L'=>∃ (b2 cap2:Nat) (spare:List Value),u=.slice (some ⟨b2,0,none⟩) (nx+k) cap2∧nx+k≤cap2∧cap2≤maxLen∧spare.length=(cap2 - (nx+k))*sz ∧
   L'=pt b2 (.cells (olds++(List.replicate k z.cells.toList).flatten++spare).toArray e (0,0))+L:=by
 intro op a w m ho ha hst
 obtain ⟨i,i1,i2,i3,i4⟩:=hi.out
 have hby':1≤by':=by
   have:by'≠0:=by simpa using hby
   omega
 have hsz':1≤sz:=by
   have:sz≠0:=by simpa using hsz
   omega
 have hzs':z.cells.size=sz:=by simpa using hzs
 have hheap:=hst.at hf
 have hlen:nx+k≤140737488355328:=Nat.le_trans (Nat.le_mul_of_pos_right _ hby') hb
 have hol:olds.length=nx*sz:=by rw [← hold,List.length_take]; omega
 have hsrc:∀ j v,olds[j]?=some v→w.drew.cell? ((⟨b,0,none⟩:Addr).add j)=some v:=by
  intro j v hv
  rw [add_none,Nat.zero_add]
  have hj:=(List.getElem?_eq_some_iff.1 hv).1
  rw [← hold,List.getElem?_take,if_pos (by omega)] at hv
  show (w.drew).cell? _=_
  have hh:w.drew.heap[b]?=some (.cells c.toArray e (0,0)):=hheap
  simp [World.cell?,hh,hv]
 have hl:=run_loadCells_list (P:=P) (w:=w.drew) ⟨b,0,none⟩ olds hsrc
 rw [hol] at hl
 have hfc:(Builtin.firstCells i.size nx (.slice (some ⟨b,0,none⟩) nx cap)).run P w.drew=.ok olds.toArray w.drew:=by
  simp only [Builtin.firstCells,i2]; exact hl
 have hfits:Builtin.nextslicecap (nx+k) cap*by'≤281474976710656:=growslice_fits (by omega) hb
 have hrun:=Lib.run_append_grow_zeros (P:=P) w t tn op.type e i z .i64 .i64 hu.out hun.out i1 i4 (some ⟨b,0,none⟩) nx cap olds hfc k hk (by omega) hroom (by omega)
  (by rw [i3]; exact Nat.le_trans (Nat.mul_le_mul_right _ (by omega:k≤nx+k)) (by omega)) (by rw [i3]; exact hfits)
 refine ⟨_,w.drew.alloc (.cells (olds.toArray++Builtin.zeroCells z.cells k++Builtin.zeroCells z.cells (grownCap w (nx+k) cap e - (nx+k))) e),_,.inl ?_,⟨w.heap.size,grownCap w (nx+k) cap e,(Builtin.zeroCells z.cells (grownCap w (nx+k) cap e - (nx+k))).toList,rfl,grownCap_ge w _ _ _,grownCap_le_maxLen w _ _ _ (by unfold maxLen; omega),?_,rfl⟩,?_⟩
 ·unfold execOp
  simp only [ho,resolve,invoke,builtin,ha.ev hx,ha.ev hy,List.map_toArray,List.map_cons,List.map_nil,pure_bind,Sem.run_bind,hrun,Result.andThen_ok,Sem.run_pure]
 ·simp only [Array.length_toList,size_zeroCells,hzs']
 ·have e1:(olds++(List.replicate k z.cells.toList).flatten++(Builtin.zeroCells z.cells (grownCap w (nx+k) cap e - (nx+k))).toList).toArray=olds.toArray++Builtin.zeroCells z.cells k++Builtin.zeroCells z.cells (grownCap w (nx+k) cap e - (nx+k)):=by
   apply Array.ext'
   simp [zeroCells_eq]
  rw [e1]
  exact hst.drew.alloc _
theorem ev_overlaps {t tR e:TypeId} [hu:Und P t (.slice e)] {sz by':Nat} {z:Value} [hi:Inf P e sz by' z] {k:FuncId} {fn:Func} {x y:Operand} {ts:Array TypeId} {a b la ca lb cb ob:Nat} {c1 c2:List Value} {e1 e2:TypeId} {R:Hp}
  (hfn:P.funcs[k]?=some fn) (hname:(fn.name == "runtime.NumGoroutine")=false) (hb:fn.body.isNone=true) (hn:Extern.findNext fn=none) (he:Extern.find fn=some (Extern.SlicesOverlaps.overlaps #[t,t] #[tR]))
  (hx:ev g x=some (.slice (some ⟨a,0,none⟩) la ca)) (hy:ev g y=some (.slice (some ⟨b,ob,none⟩) lb cb)) [hf:yJ (pt a (.cells c1.toArray e1 (0,0))+pt b (.cells c2.toArray e2 (0,0))) L R] (hc:c2.length≠0) :
  EV P w0 L g (.call { callee:=.value (.func k),args:=#[x,y],argTypes:=ts }) fun u L'=>u=.bool false∧L'=L:=by
 intro op act w m ho ha hst
 obtain ⟨i,i1,i2,i3,i4⟩:=hi.out
 have hst':=hst
 rw [hf.out] at hst'
 have hne:=hst'.sat.left.ne
 have ha1:=hst'.sat.left.left.pt.2
 have hb1:=hst'.sat.left.right.pt.2
 have hz:∀ w,(Go.sizeOf e).run P w=.ok sz w:=fun w=>by simp [sizeOf,typeInfo,i1,i2]
 have hsa:w.shape? a=some (e1,c1.toArray.size):=by simp [World.shape?,ha1]
 have hsb:w.shape? b=some (e2,c2.toArray.size):=by simp [World.shape?,hb1]
 have hf1:w.frozen? ⟨a,0,none⟩=false:=by simp [World.frozen?,ha1]
 have hf2:w.frozen? ⟨a,c1.toArray.size,none⟩=false:=by simp [World.frozen?,ha1]
 have hov:=Lib.run_overlaps_apart (P:=P) w t tR e hu.out sz hz ⟨a,0,none⟩ ⟨b,ob,none⟩ la ca lb cb hne e1 e2 c1.toArray.size c2.toArray.size hsa hsb (by simpa using hc) hf1 hf2
 refine ⟨.bool false,w,L,.inl ?_,⟨rfl,rfl⟩,hst⟩
 unfold execOp
 have hfv:act.eval (.func k)=.func (.func k) #[] #[]:=rfl
 simp only [ho,resolve,hfv,ha.ev hx,ha.ev hy,List.map_toArray,List.map_cons,List.map_nil,Deferred.ofValue,pure_bind,invoke]
 have:=run_callFunc_extern (P:=P) hfn hname hb hn he #[.slice (some ⟨a,0,none⟩) la ca,.slice (some ⟨b,ob,none⟩) lb cb] w
 rw [hov] at this
 simpa using this
end
def All2 {α:Type} (R:α→List Value→Prop):List α→List (List Value)→Prop
 | [],[]=>True
 | x::xs,e::es=>R x e∧All2 R xs es
 | _,_=>False
section
variable {α:Type} {R S:α→List Value→Prop}
theorem All2.length :∀ {xs:List α} {es:List (List Value)},All2 R xs es→es.length=xs.length
 | [],[],_=>rfl
 | x::xs,e::es,h=>by simp [All2.length h.2]
 | [],_::_,h=>by cases h
 | _::_,[],h=>by cases h
theorem All2.get :∀ {xs:List α} {es:List (List Value)},All2 R xs es→∀ {i:Nat} (h:i<xs.length),∃ e,es[i]?=some e∧R xs[i] e
 | x::xs,e::es,h,0,_=>⟨e,rfl,h.1⟩
 | x::xs,e::es,h,i+1,hi=>by
  obtain ⟨e',h1,h2⟩:=All2.get h.2 (i:=i) (by simpa using hi)
  exact ⟨e',by simpa using h1,h2⟩
 | [],_,_,i,hi=>by simp at hi
 | _::_,[],h,_,_=>by cases h
theorem All2.append :∀ {xs:List α} {es:List (List Value)},All2 R xs es→∀ {ys:List α} {es2:List (List Value)},All2 R ys es2→All2 R (xs++ys) (es++es2)
 | [],[],_,_,_,h2=>h2
 | x::xs,e::es,h,_,_,h2=>⟨h.1,All2.append h.2 h2⟩
 | [],_::_,h,_,_,_=>by cases h
 | _::_,[],h,_,_,_=>by cases h
theorem All2.mono (hm:∀ x e,R x e→S x e):∀ {xs:List α} {es:List (List Value)},All2 R xs es→All2 S xs es
 | [],[],_=>trivial
 | x::xs,e::es,h=>⟨hm x e h.1,All2.mono hm h.2⟩
 | [],_::_,h=>by cases h
 | _::_,[],h=>by cases h
theorem All2.all {p:List Value→Prop} (hp:∀ x e,R x e→p e):∀ {xs:List α} {es:List (List Value)},All2 R xs es→∀ e∈es,p e
 | [],[],_,e,he=>by cases he
 | x::xs,e::es,h,e',he=>by
  rcases List.mem_cons.1 he with rfl|he
  ·exact hp x _ h.1
  ·exact All2.all hp h.2 e' he
 | [],_::_,h,_,_=>by cases h
 | _::_,[],h,_,_=>by cases h
theorem All2.take :∀ {xs:List α} {es:List (List Value)},All2 R xs es→∀ (n:Nat),All2 R (xs.take n) (es.take n)
 | [],[],_,n=>by simp [All2]
 | x::xs,e::es,h,0=>by simp [All2]
 | x::xs,e::es,h,n+1=>⟨h.1,All2.take h.2 n⟩
 | [],_::_,h,_=>by cases h
 | _::_,[],h,_=>by cases h
theorem All2.drop :∀ {xs:List α} {es:List (List Value)},All2 R xs es→∀ (n:Nat),All2 R (xs.drop n) (es.drop n)
 | [],[],_,n=>by simp [All2]
 | x::xs,e::es,h,0=>h
 | x::xs,e::es,h,n+1=>All2.drop (xs:=xs) h.2 n
 | [],_::_,h,_=>by cases h
 | _::_,[],h,_=>by cases h
theorem All2.set :∀ {xs:List α} {es:List (List Value)},All2 R xs es→∀ (i:Nat) {x:α} {e:List Value},R x e→All2 R (xs.set i x) (es.set i e)
 | [],[],_,_,_,_,_=>by simp [All2]
 | x::xs,e::es,h,0,_,_,hr=>⟨hr,h.2⟩
 | x::xs,e::es,h,i+1,_,_,hr=>⟨h.1,All2.set h.2 i hr⟩
 | [],_::_,h,_,_,_,_=>by cases h
 | _::_,[],h,_,_,_,_=>by cases h
theorem All2.one {x:α} {e:List Value} (h:R x e):All2 R [x] [e]:=⟨h,trivial⟩
theorem All2.enc {enc:α→List Value} (hr:∀ x e,R x e↔e=enc x):∀ {xs:List α} {es:List (List Value)},All2 R xs es↔es=xs.map enc
 | [],[]=>by simp [All2]
 | x::xs,e::es=>by simp [All2,hr,All2.enc hr (xs:=xs) (es:=es)]
 | [],_::_=>by simp [All2]
 | _::_,[]=>by simp [All2]
end
def At (w0:World) (L:Hp) (b o:Nat) (e:List Value):Prop:=∀ j u,e[j]?=some u→Reads w0 L ⟨b,o+j,none⟩ u
theorem At.frame {w0:World} {X L R:Hp} [hf:yJ X L R] {b o:Nat} {e:List Value} (h:At w0 X b o e):At w0 L b o e:=fun j u hu=>(h j u hu).frame (R:=R)
theorem at_row {w0:World} {b size:Nat} {xs:List (List Value)} {x spare:List Value} {E:TypeId} {fz:Nat × Nat} {i:Nat} (hs:∀ x∈xs,x.length=size) (hx:xs[i]?=some x) :
  At w0 (pt b (.cells (xs.flatten++spare).toArray E fz)) b (0+i*size) x:=fun j u hu=>zS (R:=0) (row_get0 hs spare hx hu)
theorem flat_reps (m:Nat) (z:List Value):(List.replicate m z).flatten.length=m*z.length:=by simp
theorem RdRow.mono {w0:World} {X L R:Hp} (e:L=X+R) {sz:Nat} {v:Value} {es:List (List Value)} (h:RdRow w0 X sz v es):RdRow w0 L sz v es:=RdRow.frame (hf:=⟨e⟩) h
class Rep (α:Type) where
 tid:TypeId
 size:Nat
 rd:World→Hp→α→List Value→Prop
 len:∀ {w0 L x e},rd w0 L x e→e.length=size
 one:∀ {w0 L x e},rd w0 L x e→∀ u∈e,u.oneCell'=true
 mono:∀ {w0 X L R x e},L=X+R→rd w0 X x e→rd w0 L x e
section
variable {α:Type} [ρ:Rep α] {w0:World}
def RdL (w0:World) (L:Hp) (v:Value) (xs:List α):Prop:=∃ es,RdRow w0 L ρ.size v es∧All2 (ρ.rd w0 L) xs es
def OwL (w0:World) (X:Hp) (xs:List α) (v:Value) (h:Hp):Prop:=∃ es,isRow ρ.tid ρ.size es v h∧All2 (ρ.rd w0 X) xs es
theorem All2.lens {L:Hp} {xs:List α} {es:List (List Value)} (h:All2 (ρ.rd w0 L) xs es):∀ e∈es,e.length=ρ.size:=All2.all (p:=fun e=>e.length=ρ.size) (fun _ _ h=>ρ.len h) h
theorem All2.ones {L:Hp} {xs:List α} {es:List (List Value)} (h:All2 (ρ.rd w0 L) xs es):∀ e∈es,∀ u∈e,u.oneCell'=true:=All2.all (p:=fun e=>∀ u∈e,u.oneCell'=true) (fun _ _ h=>ρ.one h) h
theorem RdL.mono {X L R:Hp} (e:L=X+R) {v:Value} {xs:List α} (h:RdL w0 X v xs):RdL w0 L v xs:=let ⟨es,h1,h2⟩:=h; ⟨es,h1.mono e,h2.mono fun _ _=>ρ.mono e⟩
theorem RdL.frame {X L R:Hp} [hf:yJ X L R] {v:Value} {xs:List α} (h:RdL w0 X v xs):RdL w0 L v xs:=h.mono hf.out
theorem OwL.mono {X L R h:Hp} (e:L=X+R) {v:Value} {xs:List α} (H:OwL w0 X xs v h):OwL w0 L xs v h:=let ⟨es,h1,h2⟩:=H; ⟨es,h1,h2.mono fun _ _=>ρ.mono e⟩
theorem RdL.shape {L:Hp} {v:Value} {xs:List α} (h:RdL w0 L v xs):∃ ad c,v=.slice ad xs.length c:=by
 obtain ⟨es,h1,h2⟩:=h
 obtain ⟨ad,c,rfl⟩:=h1.shape
 exact ⟨ad,c,by rw [h2.length]⟩
theorem OwL.shape {X h:Hp} {v:Value} {xs:List α} (H:OwL w0 X xs v h):∃ ad c,v=.slice ad xs.length c:=by
 obtain ⟨es,h1,h2⟩:=H
 obtain ⟨ad,c,rfl⟩:=h1.shape
 exact ⟨ad,c,by rw [h2.length]⟩
theorem OwL.rd {X h L R:Hp} [hf:yJ (X+h) L R] {v:Value} {xs:List α} (H:OwL w0 X xs v h):RdL w0 L v xs:=by
 obtain ⟨es,h1,h2⟩:=H
 have e:=hf.out
 refine ⟨es,(h1.rd (w0:=w0) (L:=X+h) (R:=X)).mono e,h2.mono fun _ _=>ρ.mono (X:=X) (R:=h+R) (by rw [e,hadd_assoc])⟩
theorem OwL.rd0 {X h:Hp} {v:Value} {xs:List α} (H:OwL w0 X xs v h):RdL w0 (X+h) v xs:=H.rd (R:=0)
theorem RdL.at {L:Hp} {ad:Option Addr} {n c:Nat} {xs:List α} (h:RdL w0 L (.slice ad n c) xs) {i:Nat} (hi:i<xs.length) :
  ∃ b o,ad=some ⟨b,o,none⟩∧∃ e,ρ.rd w0 L xs[i] e∧At w0 L b (o+i*ρ.size) e:=by
 obtain ⟨es,h1,h2⟩:=h
 obtain ⟨_,h3⟩:=h1.at
 obtain ⟨e,he,hr⟩:=h2.get hi
 obtain ⟨b,o,rfl,hat⟩:=h3.2 i e he
 exact ⟨b,o,rfl,e,hr,hat⟩
theorem RdL.nil (L:Hp) (ad:Option Addr) (c:Nat):RdL w0 L (.slice ad 0 c) ([]:List α):=⟨[],⟨ad,c,rfl,by simp,fun i x hx=>by simp at hx⟩,trivial⟩
theorem OwL.nil (X:Hp) (ad:Option Addr):OwL w0 X ([]:List α) (.slice ad 0 0) 0:=⟨[],⟨by simp,.inl ⟨ad,rfl,rfl,rfl⟩⟩,trivial⟩
theorem RdL.take {L:Hp} {ad:Option Addr} {n c:Nat} {xs:List α} (h:RdL w0 L (.slice ad n c) xs) {m:Nat} (hm:m≤xs.length):RdL w0 L (.slice ad m c) (xs.take m):=by
 obtain ⟨es,h1,h2⟩:=h
 exact ⟨es.take m,h1.take (by rw [h2.length]; exact hm),h2.take m⟩
theorem RdL.drop {L:Hp} {ad:Option Addr} {n c:Nat} {xs:List α} (h:RdL w0 L (.slice ad n c) xs) {l:Nat} (hl:l≤n) (hc:n≤c):RdL w0 L (.slice (shiftA ad l c ρ.size) (n - l) (c - l)) (xs.drop l):=by
 obtain ⟨es,h1,h2⟩:=h
 exact ⟨es.drop l,h1.drop hl hc,h2.drop l⟩
end
section
variable {P:Program} {w0:World} {L:Hp} {g:Env}
theorem ev_appendL {α:Type} [ρ:Rep α] {t e:TypeId} [hu:Und P t (.slice e)] {sz by':Nat} {z:Value} [hi:Inf P e sz by' z] {x y:Operand} {v v2:Value} {xs ns:List α} {es2:List (List Value)} {X h R:Hp}
  (hx:ev g x=some v) (hy:ev g y=some v2) (hr:OwL w0 X xs v h) (n1:RdRow w0 L ρ.size v2 es2) (n2:All2 (ρ.rd w0 X) ns es2) [hf:yJ h L R] (he':(ρ.tid==e)=true) (hs':(ρ.size==sz)=true)
  (hby:(by'==0)=false) (hsz:(sz==0)=false) (hzs:(z.cells.size==sz)=true) (hb:(xs.length+ns.length)*by'≤140737488355328) :
  EV P w0 L g (.call { callee:=.builtin .append,args:=#[x,y],argTypes:=#[t,t] }) fun u L'=>∃ h',OwL w0 X (xs++ns) u h'∧L'=h'+R:=by
 obtain rfl:ρ.tid=e:=by simpa using he'
 obtain rfl:ρ.size=sz:=by simpa using hs'
 obtain ⟨es,h1,h2⟩:=hr
 have:=ev_append (P:=P) (w0:=w0) (L:=L) (g:=g) (t:=t) (xs:=es) (ns:=es2) (h:=h) (R:=R) hx hy h1 n1 n2.ones hby hsz hzs (by rw [h2.length,n2.length]; exact hb)
 intro o a w n ho ha hst
 obtain ⟨u,w',L',hr,⟨h',hh,rfl⟩,hst'⟩:=this o a w n ho ha hst
 exact ⟨u,w',_,hr,⟨h',⟨_,hh,h2.append n2⟩,rfl⟩,hst'⟩
end
section
variable {P:Program} {w0:World} {L:Hp}
theorem loads_at {t:TypeId} {d:TypeDesc} [hu:Und P t d] (hd:notAgg d=true) {X R:Hp} [hf:yJ X L R] {b o:Nat} {e:List Value} (h:At w0 X b o e) {v:Value} (hv:e[0]?=some v):Loads P w0 L t ⟨b,o,none⟩ v :=
 zG hd ((h 0 v hv).frame (R:=R))
theorem zV {t:TypeId} {d:TypeDesc} [hu:Und P t d] (hd:notAgg d=true) {X R:Hp} [hf:yJ X L R] {b o f:Nat} {e:List Value} (h:At w0 X b o e) {v:Value} (hv:e[f]?=some v):Loads P w0 L t ⟨b,o+f,none⟩ v :=
 zG hd ((h f v hv).frame (R:=R))
theorem zH {t:TypeId} {d:TypeDesc} [hu:Und P t d] (hd:notAgg d=false) {sz by':Nat} {z:Value} [hi:Inf P t sz by' z] {X R:Hp} [hf:yJ X L R] {b o:Nat} {e:List Value} (h:At w0 X b o e) (hl:(e.length==sz)=true):Loads P w0 L t ⟨b,o,none⟩ (.agg e.toArray) :=
 loads_aggR hd e (by simpa using hl) fun j u hj=>(h j u hj).frame (R:=R)
end
section
variable {P:Program} {n:Nat} {w0:World} {Q:Post} {g:Env} {L:Hp} {ops:Array Oper} {rest:List Oper} {dst:Option Nat} {ty:TypeId} {pos:String} {af:Array Edge} {gd:Option (Nat × Bool)}
theorem L_idx {t e:TypeId} [hu:Und P t (.slice e)] {sz by':Nat} {z:Value} [hi:Inf P e sz by' z] {x ix:Operand} {b off len cap:Nat} {k:IntKind} {i:Nat}
  (hx:ev g x=some (.slice (some ⟨b,off,none⟩) len cap)) (hix:ev g ix=some (.int k (i:Int))) (h1:i<len)
  (hw:wantedE ops g gd=some true) (hd:dst.all (·<n)=true) (hk:HoldL P n w0 ops rest Q (putE g dst (.pointer (some ⟨b,off+i*sz,none⟩))) L) :
  HoldL P n w0 ops (⟨dst,.indexAddr t x ix,ty,pos,af,gd⟩::rest) Q g L:=yG hw hd (pv_indexAddr hx hix h1) hk
theorem L_at {t:TypeId} {d:TypeDesc} [hu:Und P t d] {x:Operand} {X R:Hp} {b o:Nat} {e:List Value} {v:Value}
  (hx:ev g x=some (.pointer (some ⟨b,o,none⟩))) (h:At w0 X b o e) [hf:yJ X L R] (hv:e[0]?=some v) (hn:notAgg d=true)
  (hw:wantedE ops g gd=some true) (hd:dst.all (·<n)=true) (hk:HoldL P n w0 ops rest Q (putE g dst v) L) :
  HoldL P n w0 ops (⟨dst,.load t x,ty,pos,af,gd⟩::rest) Q g L:=L_load hw hd (yE hx) (loads_at hn h hv) hk
theorem L_atf {t:TypeId} {d:TypeDesc} [hu:Und P t d] {x:Operand} {X R:Hp} {b o f:Nat} {e:List Value} {v:Value}
  (hx:ev g x=some (.pointer (some ⟨b,o+f,none⟩))) (h:At w0 X b o e) [hf:yJ X L R] (hv:e[f]?=some v) (hn:notAgg d=true)
  (hw:wantedE ops g gd=some true) (hd:dst.all (·<n)=true) (hk:HoldL P n w0 ops rest Q (putE g dst v) L) :
  HoldL P n w0 ops (⟨dst,.load t x,ty,pos,af,gd⟩::rest) Q g L:=L_load hw hd (yE hx) (zV hn h hv) hk
theorem L_atA {t:TypeId} {d:TypeDesc} [hu:Und P t d] {sz by':Nat} {z:Value} [hi:Inf P t sz by' z] {x:Operand} {X R:Hp} {b o:Nat} {e:List Value}
  (hx:ev g x=some (.pointer (some ⟨b,o,none⟩))) (h:At w0 X b o e) [hf:yJ X L R] (hl:(e.length==sz)=true) (hn:notAgg d=false)
  (hw:wantedE ops g gd=some true) (hd:dst.all (·<n)=true) (hk:HoldL P n w0 ops rest Q (putE g dst (.agg e.toArray)) L) :
  HoldL P n w0 ops (⟨dst,.load t x,ty,pos,af,gd⟩::rest) Q g L:=L_load hw hd (yE hx) (zH hn h hl) hk
theorem L_bs {t e:TypeId} [hu:Und P t (.slice e)] {sz by':Nat} {z:Value} [hi:Inf P e sz by' z] {len:Nat} {parts:List (Nat × Operand)} {vs cells:List Value}
  (hp:evs g (parts.map (·.2))=some vs) (hfill':fillL (fun i=>some (i*sz,sz)) (List.replicate len z.cells.toList).flatten ((parts.map (·.1)).zip vs)=some cells)
  (hlim:decide (len*sz≤16777216)=true) (hz:(z.cells.size==sz)=true) (hw:wantedE ops g gd=some true) (hd:dst.all (·<n)=true)
  (hk:∀ b,HoldL P n w0 ops rest Q (putE g dst (.slice (some ⟨b,0,none⟩) len len)) (pt b (.cells cells.toArray e (0,0))+L)) :
  HoldL P n w0 ops (⟨dst,.buildSlice t len parts.toArray,ty,pos,af,gd⟩::rest) Q g L:=L_eff hw hd (ev_buildSlice hp hlim hz hfill') (by rintro _ _ ⟨b,rfl,rfl⟩; exact hk b)
theorem L_clo {k:Nat} {cap:List Operand} {vs:List Value} (h:evs g cap=some vs) (hw:wantedE ops g gd=some true) (hd:dst.all (·<n)=true) (hk:HoldL P n w0 ops rest Q (putE g dst (.func (.func k) #[] vs.toArray)) L) :
  HoldL P n w0 ops (⟨dst,.makeFunc (.func k) #[] cap.toArray,ty,pos,af,gd⟩::rest) Q g L :=
 yG hw hd (v:=.func (.func k) #[] vs.toArray) (by intro o a w n ho ha; unfold execOp; simp [ho,Instr.makeFunc,ha.evs h]) hk
end
section
variable {P:Program} {n:Nat} {w0:World} {Q:Post} {g:Env} {L:Hp} {ops:Array Oper} {eff:List Nat} {W:Watched} {listed:Array Bool} {s:List Nat} {i:Nat} {dst:Option Nat} {ty:TypeId} {pos:String} {af:Array Edge} {gd:Option (Nat × Bool)}
theorem W_idx {t e:TypeId} [hu:Und P t (.slice e)] {sz by':Nat} {z:Value} [hi:Inf P e sz by' z] {x ix:Operand} {b off len cap:Nat} {k:IntKind} {j:Nat} (hi':ops[i]?=some ⟨dst,.indexAddr t x ix,ty,pos,af,gd⟩)
  (hx:ev g x=some (.slice (some ⟨b,off,none⟩) len cap)) (hix:ev g ix=some (.int k (j:Int))) (h1:j<len) (heff:eff.contains i=false) (hw:wantedE ops g gd=some true) (hd:dst.all (·<n)=true)
  (hk:HoldW P n w0 ops eff W (listed.setIfInBounds i true) s Q (putE g dst (.pointer (some ⟨b,off+j*sz,none⟩))) L):HoldW P n w0 ops eff W listed (i::s) Q g L:=yD hi' heff hw hd (pv_indexAddr hx hix h1) hk
theorem W_at {t:TypeId} {d:TypeDesc} [hu:Und P t d] {x:Operand} {X R:Hp} {b o:Nat} {e:List Value} {v:Value} (hi':ops[i]?=some ⟨dst,.load t x,ty,pos,af,gd⟩)
  (hx:ev g x=some (.pointer (some ⟨b,o,none⟩))) (h:At w0 X b o e) [hf:yJ X L R] (hv:e[0]?=some v) (hn:notAgg d=true) (heff:eff.contains i=false) (hw:wantedE ops g gd=some true) (hd:dst.all (·<n)=true)
  (hk:HoldW P n w0 ops eff ((i,t,⟨b,o,none⟩,v)::W) (listed.setIfInBounds i true) s Q (putE g dst v) L):HoldW P n w0 ops eff W listed (i::s) Q g L:=W_load hi' heff hw hd (yE hx) (loads_at hn h hv) hk
theorem W_atf {t:TypeId} {d:TypeDesc} [hu:Und P t d] {x:Operand} {X R:Hp} {b o f:Nat} {e:List Value} {v:Value} (hi':ops[i]?=some ⟨dst,.load t x,ty,pos,af,gd⟩)
  (hx:ev g x=some (.pointer (some ⟨b,o+f,none⟩))) (h:At w0 X b o e) [hf:yJ X L R] (hv:e[f]?=some v) (hn:notAgg d=true) (heff:eff.contains i=false) (hw:wantedE ops g gd=some true) (hd:dst.all (·<n)=true)
  (hk:HoldW P n w0 ops eff ((i,t,⟨b,o+f,none⟩,v)::W) (listed.setIfInBounds i true) s Q (putE g dst v) L):HoldW P n w0 ops eff W listed (i::s) Q g L:=W_load hi' heff hw hd (yE hx) (zV hn h hv) hk
theorem W_atA {t:TypeId} {d:TypeDesc} [hu:Und P t d] {sz by':Nat} {z:Value} [hi:Inf P t sz by' z] {x:Operand} {X R:Hp} {b o:Nat} {e:List Value} (hi':ops[i]?=some ⟨dst,.load t x,ty,pos,af,gd⟩)
  (hx:ev g x=some (.pointer (some ⟨b,o,none⟩))) (h:At w0 X b o e) [hf:yJ X L R] (hl:(e.length==sz)=true) (hn:notAgg d=false) (heff:eff.contains i=false) (hw:wantedE ops g gd=some true) (hd:dst.all (·<n)=true)
  (hk:HoldW P n w0 ops eff ((i,t,⟨b,o,none⟩,.agg e.toArray)::W) (listed.setIfInBounds i true) s Q (putE g dst (.agg e.toArray)) L):HoldW P n w0 ops eff W listed (i::s) Q g L:=W_load hi' heff hw hd (yE hx) (zH hn h hl) hk
end
section
variable {P:Program} {n:Nat} {w0:World} {Q:Post} {g:Env} {L:Hp} {ops:Array Oper} {rest:List Oper} {dst:Option Nat} {op:Op} {ty:TypeId} {pos:String} {af:Array Edge} {gd:Option (Nat × Bool)}
theorem L_callD (hw:wantedE ops g gd=some true) (hd:dst.all (·<n)=true) {k:FuncId} {args:List Value} (h:CV P g op k args) {X R:Hp} {p:Prop} [Decidable p]
  (hs:Spec P w0 k args X (fun r h'=>r=.bool (decide p)∧X=h')) [hL:yJ X L R] (ht:p→HoldL P n w0 ops rest Q (putE g dst (.bool true)) (X+R)) (hf:¬ p→HoldL P n w0 ops rest Q (putE g dst (.bool false)) (X+R)) :
  HoldL P n w0 ops (⟨dst,op,ty,pos,af,gd⟩::rest) Q g L:=zX hw hd h hs (by
   rintro _ _ ⟨rfl,rfl⟩
   by_cases hp:p
   ·rw [decide_eq_true hp]; exact ht hp
   ·rw [decide_eq_false hp]; exact hf hp)
theorem L_callV (hw:wantedE ops g gd=some true) (hd:dst.all (·<n)=true) {k:FuncId} {args:List Value} (h:CV P g op k args) {X R:Hp} {v:Value}
  (hs:Spec P w0 k args X (fun r h'=>r=v∧X=h')) [hL:yJ X L R] (ht:HoldL P n w0 ops rest Q (putE g dst v) (X+R)) :
  HoldL P n w0 ops (⟨dst,op,ty,pos,af,gd⟩::rest) Q g L:=zX hw hd h hs (by rintro _ _ ⟨rfl,rfl⟩; exact ht)
theorem hold_cond_d {c:Operand} {x y:Code} {p:Prop} [Decidable p] (hc:ev g c=some (.bool (decide p))) (ht:p→Hold P n w0 x Q g L) (hf:¬ p→Hold P n w0 y Q g L):Hold P n w0 (.cond c x y) Q g L :=
 hold_cond hc (fun e=>ht (of_decide_eq_true e)) (fun e=>hf (of_decide_eq_false e))
end
def countQ (N:Nat) (J:Nat→Env→Hp→Prop) (k:Nat) (Q:Post):Post
 | .normal,g,L=>k<N∧∃ g',Sub g g'∧J (k+1) g' L
 | e,g,L=>Q e g L
instance (N:Nat) (J:Nat→Env→Hp→Prop) (k:Nat) (Q:Post) [h:NP Q]:NP (countQ N J k Q):=⟨h.out⟩
def HoldR (P:Program) (n:Nat) (w0:World) (c:Code) (Q:Post) (g:Env) (L:Hp):Prop :=
 ∀ a w,Fits n a g→St w0 w L→∀ b k cs,∃ e a' w',lift n w0 Q e a' w'∧Arrives P (lone (b.at a (.code c::.inLoop c::k)) cs w) b k cs e a' w'
def onceQ (P:Program) (n:Nat) (w0:World) (c:Code) (Q:Post):Post
 | .normal,g,L=>HoldR P n w0 c Q g L
 | e,g,L=>Q e g L
instance (P:Program) (n:Nat) (w0:World) (c:Code) (Q:Post) [h:NP Q]:NP (onceQ P n w0 c Q):=⟨h.out⟩
section
variable {P:Program} {n:Nat} {w0:World} {Q:Post} {g:Env} {L:Hp}
theorem hold_count {c:Code} (N:Nat) (J:Nat→Env→Hp→Prop) (g':Env) (h0:J 0 g' L) (hs:Sub g g') (round:∀ k g L,k≤N→J k g L→Hold P n w0 c (countQ N J k Q) g L):Hold P n w0 (.loop c) Q g L :=
 hold_loop (fun m g L=>m≤N∧J (N - m) g L) N g' ⟨Nat.le_refl _,by rw [Nat.sub_self]; exact h0⟩ hs fun m g L ⟨hm,hJ⟩=>by
  refine hold_mono ?_ (round (N - m) g L (by omega) hJ)
  intro e g2 L2 hq
  cases e with
  | normal =>
   obtain ⟨hlt,g3,hsub,hj⟩:=hq
   exact ⟨m - 1,g3,by omega,hsub,by omega,by rw [show N - (m - 1)=N - m+1 by omega]; exact hj⟩
  | _=>exact hq
theorem hold_loop_of {c:Code} (h:HoldR P n w0 c Q g L):Hold P n w0 (.loop c) Q g L:=by
 intro a w ha hw b k cs
 obtain ⟨e,a2,w2,hq,harr⟩:=h a w ha hw b k cs
 exact ⟨e,a2,w2,hq,.of_steps (.one step_loop) harr⟩
theorem holdR {c:Code} (h:Hold P n w0 c (onceQ P n w0 c Q) g L):HoldR P n w0 c Q g L:=by
 intro a w ha hw b k cs
 obtain ⟨e,a1,w1,⟨g1,L1,hq,ha1,hw1⟩,harr⟩:=h a w ha hw b (.inLoop c::k) cs
 cases e with
 | normal =>
  obtain ⟨e2,a2,w2,hq2,harr2⟩:=hq a1 w1 ha1 hw1 b k cs
  exact ⟨e2,a2,w2,hq2,.of_steps (Steps.trans harr (.one step_inLoop)) harr2⟩
 | exit id=>exact ⟨_,a1,w1,⟨g1,L1,hq,ha1,hw1⟩,.pass (x:=.inLoop c) M (fun _ _=>.inl (by simp)) harr⟩
 | goto l=>exact ⟨_,a1,w1,⟨g1,L1,hq,ha1,hw1⟩,.pass (x:=.inLoop c) M (fun _ _=>.inl (by simp)) harr⟩
 | ret=>exact ⟨_,a1,w1,⟨g1,L1,hq,ha1,hw1⟩,.pass (x:=.inLoop c) M (fun _ _=>.inl (by simp)) harr⟩
 | panic ch=>exact ⟨_,a1,w1,⟨g1,L1,hq,ha1,hw1⟩,.pass (x:=.inLoop c) M (fun _ _=>.inl (by simp)) harr⟩
 | outgrown=>exact ⟨_,a1,w1,⟨g1,L1,hq,ha1,hw1⟩,.pass (x:=.inLoop c) M (fun _ _=>.inl (by simp)) harr⟩
end
theorem zka {P:Program} {w0:World} {L:Hp} {W:Watched} (h:AllLoads P w0 L W:=by repeat (first|exact trivial|exact zG M (zS M)|exact zL M M M|exact loads_at M (by assumption) M|exact zV M (by assumption) M|exact zH M (by assumption) M|exact zH M (by assumption) (by assumption)|refine ⟨?_,?_⟩)):AllLoads P w0 L W:=h
theorem zsb {g g':Env} (h:Sub g g':=by repeat (first|exact zT _|refine zO M ?_)):Sub g g':=h
/-- A goal that is still open,kept out of the way of assumption. -/
structure Zh (p:Prop):Prop where
 o:p
section
variable {P:Program} {g:Env} {t ty:TypeId} {x y:Operand}
theorem pv_or {k:IntKind} {i j:Int} (hx:ev g x=some (.int k i)) (hy:ev g y=some (.int k j)):PV P g (.binOp .or t x y ty) (.int k (k.wrap (BitVec.ofInt k.bits i ||| BitVec.ofInt k.bits j).toNat)):=by
 intro o a w n ho ha
 unfold execOp
 simp only [ho,ha.ev hx,ha.ev hy,Sem.run_bind,run_guard_int,Result.andThen_ok]
 simp [binOp,Op.intBits]
theorem pv_shr {k k2:IntKind} {i j:Int} (hx:ev g x=some (.int k i)) (hy:ev g y=some (.int k2 j)) (h0:0≤j):PV P g (.binOp .shr t x y ty) (.int k (i.fdiv (2 ^ (min j.toNat k.bits)))):=by
 intro o a w n ho ha
 have hn:¬ j<0:=by omega
 unfold execOp
 simp only [ho,ha.ev hx,ha.ev hy,eqGuard,binOp,Op.shift,hn,if_false]
 simp
theorem pv_conv_int {s d:TypeId} {k k2:IntKind} {n:Int} {ds:TypeDesc} [hs:Und P s ds] [hd:Und P d (.int k)] (hx:ev g x=some (.int k2 n)):PV P g (.convert s d x) (.int k (k.wrap n)):=by
 intro o a w m ho ha
 unfold execOp
 simp only [ho,ha.ev hx,convert,Sem.run_bind,run_underlying hs.out,run_underlying hd.out,Result.andThen_ok,Conv.intToInt,Sem.run_pure]
theorem pv_conv_in {s d:TypeId} {k2:IntKind} {n:Int} {ds:TypeDesc} [hs:Und P s ds] [hd:Und P d (.int .i64)] (hx:ev g x=some (.int k2 n)) (h0:-9223372036854775808≤n) (h1:n≤9223372036854775807):PV P g (.convert s d x) (.int .i64 n):=by
 have:=pv_conv_int (P:=P) (s:=s) (d:=d) (k:=.i64) hx
 rwa [wrap_i64_in n h0 h1] at this
theorem pv_conv_to {s d:TypeId} {k k2:IntKind} {n m:Int} {ds:TypeDesc} [hs:Und P s ds] [hd:Und P d (.int k)] (hx:ev g x=some (.int k2 n)) (h:k.wrap n=m):PV P g (.convert s d x) (.int k m):=by
 subst h; exact pv_conv_int hx
theorem u64_wrap (n:Int):IntKind.u64.wrap n=n % 18446744073709551616:=by
 simp only [IntKind.wrap,IntKind.signed,IntKind.bits]
 simp
theorem u64_in {n:Int} (h0:0≤n) (h1:n<18446744073709551616):IntKind.u64.wrap n=n:=by rw [u64_wrap]; omega
theorem u8_wrap (n:Int):IntKind.u8.wrap n=n % 256:=by
 simp only [IntKind.wrap,IntKind.signed,IntKind.bits]
 simp
theorem pv_shr1 {k2:IntKind} {n:Nat} (hx:ev g x=some (.int .u64 (n:Int))) (hy:ev g y=some (.int k2 1)):PV P g (.binOp .shr t x y ty) (.int .u64 ((n / 2:Nat):Int)):=by
 have:=pv_shr (P:=P) (t:=t) (ty:=ty) hx hy (by decide)
 have e:((n:Int).fdiv (2 ^ (min (1:Int).toNat IntKind.u64.bits)))=((n / 2:Nat):Int):=by
  show (n:Int).fdiv 2=_
  rw [Int.fdiv_eq_ediv_of_nonneg _ (by omega)]; omega
 rwa [e] at this
end
section
variable {α:Type}
def BsAt (p:α→Bool) (xs:List α) (i:Nat):Prop:=i≤xs.length∧(∀ h:0<i∧i - 1<xs.length,p xs[i - 1]=true)∧(∀ h:i<xs.length,p xs[i]=false)
def foundAt (c:α→Int) (xs:List α) (i:Nat):Bool:=if h:i<xs.length then decide (c xs[i]=0) else false
end
theorem splice_app :∀ (a b:List Value),b.length=a.length→∀ (c pre:List Value),spliceL pre.length b (pre++(a++c))=pre++(b++c)
 | [],b,h,c,pre=>by
  have:b=[]:=List.eq_nil_of_length_eq_zero h
  subst this; rw [splice_nil]
 | x::a,[],h,c,pre=>by simp at h
 | x::a,y::b,h,c,pre=>by
  rw [splice_set,List.set_append_right _ _ (Nat.le_refl _),Nat.sub_self,List.cons_append,List.set_cons_zero]
  have:=splice_app a b (by simpa using h) c (pre++[y])
  simp only [List.length_append,List.length_singleton,List.append_assoc,List.singleton_append] at this
  rw [this]; rfl
theorem ev_clearZ {P:Program} {w0:World} {L:Hp} {g:Env} {t e:TypeId} [hu:Und P t (.slice e)] {sz by':Nat} {z:Value} [hi:Inf P e sz by' z] {x:Operand} {b off m cap:Nat} {c:List Value} {R:Hp}
  (hx:ev g x=some (.slice (some ⟨b,off,none⟩) m cap)) [hf:HasPt b L (.cells c.toArray e (0,0)) R] (hz:(z.cells.size==sz)=true) (h1:z.cells.toList.all (·.oneCell')=true) (hc:off+m*sz≤c.length) :
  EV P w0 L g (.call { callee:=.builtin .clear,args:=#[x],argTypes:=#[t] }) fun u L'=>∃ zs:List Value,zs.length=m*sz∧L'=pt b (.cells (spliceL off zs c).toArray e (0,0))+R:=by
 have:=ev_clear (P:=P) (w0:=w0) (L:=L) (g:=g) (t:=t) hx hz h1 hc
 intro o a w n ho ha hst
 obtain ⟨u,w',L',hr,rfl,hst'⟩:=this o a w n ho ha hst
 exact ⟨u,w',_,hr,⟨_,by simp only [List.length_flatten,List.map_replicate,List.sum_replicate_nat,Array.length_toList]; rw [show z.cells.size=sz by simpa using hz],rfl⟩,hst'⟩
theorem splice_row {fs rs:List (List Value)} {r0 e spare:List Value} {size:Nat} (hf:∀ x∈fs,x.length=size) (h0:r0.length=size) (he:e.length=size) :
  spliceL (0+fs.length*size) e ((fs++r0::rs).flatten++spare)=(fs++[e]++rs).flatten++spare:=by
 have:=splice_app r0 e (by omega) (rs.flatten++spare) fs.flatten
 rw [length_flat hf] at this
 simpa [Nat.zero_add] using this
def endQ (p:Env→Hp→Prop):Post
 | .normal,g,L=>p g L
 | _,_,_=>False
instance (p:Env→Hp→Prop):NP (endQ p):=⟨fun _ _ _ h=>h⟩
theorem hold_join {P:Program} {n:Nat} {w0:World} {c:Code} {Q:Post} {g:Env} {L:Hp} (p:Env→Hp→Prop) (h1:Hold P n w0 c (endQ p) g L) (h2:∀ g' L',p g' L'→Q .normal g' L'):Hold P n w0 c Q g L :=
 hold_mono (fun e g' L' h=>by cases e<;>first|exact h2 _ _ h|cases h) h1
section
variable {α:Type}
theorem bs_lo {key:α→Int} {xs:List α} {t:Int} {i:Nat} (hs:xs.Pairwise fun a b=>key a<key b) (hb:BsAt (fun x=>decide (key x - t<0)) xs i):∀ x∈xs.take i,key x<t:=by
 intro x hx
 obtain ⟨j,hj,rfl⟩:=List.getElem_of_mem hx
 rw [List.length_take] at hj
 have h1:=hb.2.1 ⟨by omega,by have:=hb.1; omega⟩
 have h1:key (xs[i - 1]'(by have:=hb.1; omega))<t:=by have:=of_decide_eq_true h1; omega
 rw [List.getElem_take]
 rcases Nat.lt_or_ge j (i - 1) with h|h
 ·have:=(List.pairwise_iff_getElem.1 hs) j (i - 1) (by omega) (by have:=hb.1; omega) h
  omega
 ·have e:j=i - 1:=by omega
  subst e; exact h1
theorem bs_hi {key:α→Int} {xs:List α} {t:Int} {i:Nat} (hs:xs.Pairwise fun a b=>key a<key b) (hb:BsAt (fun x=>decide (key x - t<0)) xs i):∀ x∈xs.drop i,t≤key x:=by
 intro x hx
 obtain ⟨j,hj,rfl⟩:=List.getElem_of_mem hx
 rw [List.length_drop] at hj
 have h1:¬ key (xs[i]'(by omega)) - t<0:=of_decide_eq_false (hb.2.2 (by omega))
 rw [List.getElem_drop]
 rcases Nat.eq_zero_or_pos j with h|h
 ·subst h; simp only [Nat.add_zero]; omega
 ·have:=(List.pairwise_iff_getElem.1 hs) i (i+j) (by omega) (by omega) (by omega)
  omega
theorem filter_lo {p:α→Bool} {a b:List α} (ha:∀ x∈a,p x=true) (hb:∀ x∈b,p x=false):(a++b).filter p=a:=by
 rw [List.filter_append,List.filter_eq_self.2 ha,List.filter_eq_nil_iff.2 (fun x hx=>by rw [hb x hx]; simp),List.append_nil]
theorem filter_hi {p:α→Bool} {a b:List α} (ha:∀ x∈a,p x=false) (hb:∀ x∈b,p x=true):(a++b).filter p=b:=by
 rw [List.filter_append,List.filter_eq_self.2 hb,List.filter_eq_nil_iff.2 (fun x hx=>by rw [ha x hx]; simp),List.nil_append]
theorem bs_found {key:α→Int} {xs:List α} {t:Int} {i:Nat} (hs:xs.Pairwise fun a b=>key a<key b) (hb:BsAt (fun x=>decide (key x - t<0)) xs i) (hf:foundAt (fun x=>key x - t) xs i=true) :
  ∃ h:i<xs.length,key xs[i]=t∧xs.take i=xs.filter (fun x=>decide (key x<t))∧xs.drop (i+1)=xs.filter (fun x=>decide (t<key x))∧xs.find? (fun x=>decide (key x=t))=some xs[i]:=by
 unfold foundAt at hf
 split at hf
 ·rename_i hi
  have hk:key xs[i]=t:=by have:key xs[i] - t=0:=of_decide_eq_true hf; omega
  have lo:=bs_lo hs hb
  have hd:xs.drop i=xs[i]::xs.drop (i+1):=List.drop_eq_getElem_cons hi
  have hi2:∀ x∈xs.drop (i+1),t<key x:=by
   intro x hx
   obtain ⟨j,hj,rfl⟩:=List.getElem_of_mem hx
   rw [List.length_drop] at hj
   rw [List.getElem_drop]
   have:=(List.pairwise_iff_getElem.1 hs) i (i+1+j) hi (by omega) (by omega)
   omega
  have hall:xs=xs.take i++xs[i]::xs.drop (i+1):=by rw [← hd,List.take_append_drop]
  refine ⟨hi,hk,?_,?_,?_⟩
  ·conv=>rhs; rw [← List.take_append_drop i xs]
   exact (filter_lo (fun x hx=>decide_eq_true (lo x hx)) (fun x hx=>decide_eq_false (by have:=bs_hi hs hb x hx; omega))).symm
  ·conv=>rhs; rw [← List.take_append_drop (i+1) xs]
   refine (filter_hi (fun x hx=>decide_eq_false ?_) (fun x hx=>decide_eq_true (hi2 x hx))).symm
   rw [List.take_succ_eq_append_getElem hi,List.mem_append,List.mem_singleton] at hx
   rcases hx with hx|rfl
   ·have:=lo x hx; omega
   ·omega
  ·have key2:(xs.take i++xs[i]::xs.drop (i+1)).find? (fun x=>decide (key x=t))=some xs[i]:=by
    rw [List.find?_append,List.find?_eq_none.2 (fun x hx=>by have:=lo x hx; simp; omega),Option.none_or,List.find?_cons_of_pos (by simp [hk])]
   rw [← hall] at key2
   exact key2
 ·cases hf
theorem bs_missed {key:α→Int} {xs:List α} {t:Int} {i:Nat} (hs:xs.Pairwise fun a b=>key a<key b) (hb:BsAt (fun x=>decide (key x - t<0)) xs i) (hf:foundAt (fun x=>key x - t) xs i=false) :
  xs.take i=xs.filter (fun x=>decide (key x<t))∧xs.drop i=xs.filter (fun x=>decide (t<key x))∧xs.find? (fun x=>decide (key x=t))=none:=by
 have lo:=bs_lo hs hb
 have hi2:∀ x∈xs.drop i,t<key x:=by
  intro x hx
  have h1:=bs_hi hs hb x hx
  obtain ⟨j,hj,rfl⟩:=List.getElem_of_mem hx
  rw [List.length_drop] at hj
  rw [List.getElem_drop] at h1 ⊢
  have hi:i<xs.length:=by omega
  have h2:=bs_hi hs hb xs[i] (by rw [List.drop_eq_getElem_cons hi]; exact List.mem_cons_self)
  have h3:key xs[i]≠t:=by
   intro e
   unfold foundAt at hf
   rw [dif_pos hi,decide_eq_true (show (fun x=>key x - t) xs[i]=0 by show key xs[i] - t=0; omega)] at hf
   cases hf
  rcases Nat.eq_zero_or_pos j with h|h
  ·subst h; simp only [Nat.add_zero] at h1 ⊢; omega
  ·have:=(List.pairwise_iff_getElem.1 hs) i (i+j) hi (by omega) (by omega)
   omega
 refine ⟨?_,?_,?_⟩
 ·conv=>rhs; rw [← List.take_append_drop i xs]
  exact (filter_lo (fun x hx=>decide_eq_true (lo x hx)) (fun x hx=>decide_eq_false (by have:=hi2 x hx; omega))).symm
 ·conv=>rhs; rw [← List.take_append_drop i xs]
  exact (filter_hi (fun x hx=>decide_eq_false (by have:=lo x hx; omega)) (fun x hx=>decide_eq_true (hi2 x hx))).symm
 ·rw [← List.take_append_drop i xs]
  exact List.find?_eq_none.2 (fun x hx=>by
   rcases List.mem_append.1 hx with h|h
   ·have:=lo x h; simp; omega
   ·have:=hi2 x h; simp; omega)
end
theorem set_row1_get {fs rs:List (List Value)} {r0 spare:List Value} (hf:∀ x∈fs,x.length=1) (h0:r0.length=1):((fs++r0::rs).flatten++spare)[0+fs.length*1]?=some (r0.getD 0 undef):=by
 match r0,h0 with
 | [u],_ =>
  have:=length_flat hf
  rw [List.flatten_append,List.append_assoc,List.getElem?_append_right (by omega),this,Nat.zero_add,Nat.sub_self]
  rfl
theorem set_row1 {fs rs:List (List Value)} {r0 spare:List Value} {u:Value} (hf:∀ x∈fs,x.length=1) (h0:r0.length=1):((fs++r0::rs).flatten++spare).set (0+fs.length*1) u=(fs++[[u]]++rs).flatten++spare:=by
 match r0,h0 with
 | [x],_ =>
  have:=length_flat hf
  rw [List.flatten_append,List.append_assoc,List.set_append_right _ _ (by omega),this,Nat.zero_add,Nat.sub_self]
  simp
def or64 (a b:Int):Int:=IntKind.i64.wrap (BitVec.ofInt IntKind.i64.bits a ||| BitVec.ofInt IntKind.i64.bits b).toNat
theorem L_or64 {P:Program} {n:Nat} {w0:World} {Q:Post} {g:Env} {L:Hp} {ops:Array Oper} {rest:List Oper} {dst:Option Nat} {ty:TypeId} {pos:String} {af:Array Edge} {gd:Option (Nat × Bool)} {t tb:TypeId} {x y:Operand} {a b:Int}
  (hx:ev g x=some (.int .i64 a)) (hy:ev g y=some (.int .i64 b)) (hw:wantedE ops g gd=some true) (hd:dst.all (·<n)=true) (hk:HoldL P n w0 ops rest Q (putE g dst (.int .i64 (or64 a b))) L) :
  HoldL P n w0 ops (⟨dst,.binOp .or t x y tb,ty,pos,af,gd⟩::rest) Q g L:=yG hw hd (pv_or hx hy) hk
set_option maxHeartbeats 4000000
set_option maxRecDepth 4000
attribute [local irreducible] Hold HoldL HoldW
theorem Spec.mono {P:Program} {w0:World} {f:FuncId} {args:List Value} {pre:Hp} {post post':Value→Hp→Prop} (h:Spec P w0 f args pre post) (hp:∀ r h,post r h→post' r h):Spec P w0 f args pre post' :=
 fun w fr hw=>(h w fr hw).mono fun e w' ⟨v,k,h1,h2,h3⟩=>⟨v,k,h1,hp _ _ h2,h3⟩
theorem Spec.into {P:Program} {w0:World} {f:FuncId} {args:List Value} {Y X R:Hp} {post post':Value→Hp→Prop} (h:Spec P w0 f args Y post) (e:X=Y+R) (hp:∀ r h,post r h→post' r (h+R)):Spec P w0 f args X post':=by
 subst e
 intro w fr hw
 rw [hadd_assoc] at hw
 refine (h w _ hw).mono ?_
 rintro e w' ⟨v,k,h1,h2,h3⟩
 exact ⟨v,k+R,h1,hp _ _ h2,by rw [hadd_assoc]; exact h3⟩
abbrev Bt :=Fin 256
def cellB (x:Bt):List Value:=[.int .u8 (x.val:Int)]
instance repB :Rep Bt where
 tid:=5
 size:=1
 rd:=fun _ _ x e=>e=cellB x
 len:=by rintro _ _ _ _ rfl; rfl
 one:=by rintro _ _ _ _ rfl u hu; simp [cellB] at hu; subst hu; rfl
 mono:=fun _ h=>h
instance repI :Rep Int where
 tid:=3
 size:=1
 rd:=fun _ _ x e=>e=[.int .i64 x]
 len:=by rintro _ _ _ _ rfl; rfl
 one:=by rintro _ _ _ _ rfl u hu; simp at hu; subst hu; rfl
 mono:=fun _ h=>h
theorem rdI_enc {w0:World} {L:Hp} {xs:List Int} {es:List (List Value)}:All2 (Rep.rd w0 L) xs es↔es=enc1 xs:=All2.enc (fun _ _=>Iff.rfl)
theorem rdB_enc {w0:World} {L:Hp} {xs:List Bt} {es:List (List Value)}:All2 (Rep.rd w0 L) xs es↔es=xs.map cellB:=All2.enc (fun _ _=>Iff.rfl)
theorem rdL_ints {w0:World} {L:Hp} {v:Value} {xs:List Int}:RdL w0 L v xs↔RdRow w0 L 1 v (enc1 xs):=⟨fun ⟨es,h1,h2⟩=>by rw [rdI_enc] at h2; subst h2; exact h1,fun h=>⟨_,h,rdI_enc.2 M⟩⟩
theorem owL_ints {w0:World} {X h:Hp} {v:Value} {xs:List Int}:OwL w0 X xs v h↔isRow 3 1 (enc1 xs) v h:=⟨fun ⟨es,h1,h2⟩=>by rw [rdI_enc] at h2; subst h2; exact h1,fun h=>⟨_,h,rdI_enc.2 M⟩⟩
theorem OwL.plainB {w0:World} {X Y h:Hp} {v:Value} {xs:List Bt} (H:OwL w0 X xs v h):OwL w0 Y xs v h:=let ⟨es,h1,h2⟩:=H; ⟨es,h1,rdB_enc.2 (rdB_enc.1 h2)⟩
structure Wr where
 block:Int
 data:List Bt
deriving DecidableEq
instance repWr :Rep Wr where
 tid:=44
 size:=2
 rd:=fun w0 L x e=>∃ a c,e=[.int .i64 x.block,.slice a x.data.length c]∧RdL w0 L (.slice a x.data.length c) x.data
 len:=by rintro _ _ _ _ ⟨a,c,rfl,_⟩; rfl
 one:=by
  rintro _ _ _ _ ⟨a,c,rfl,h⟩ u hu
  simp only [List.mem_cons,List.not_mem_nil,or_false] at hu
  rcases hu with rfl|rfl<;>rfl
 mono:=by rintro _ _ _ _ _ _ e ⟨a,c,rfl,h⟩; exact ⟨a,c,rfl,h.mono e⟩
section
variable {α:Type}
def idxF (p:α→Bool):List α→Int
 | []=>-1
 | x::xs=>if p x=true then 0 else if idxF p xs<0 then -1 else idxF p xs+1
theorem idxF_cases (p:α→Bool):∀ (xs:List α),(idxF p xs=-1∧∀ x∈xs,p x=false)∨∃ (k:Nat) (h:k<xs.length),idxF p xs=k∧p xs[k]=true∧∀ x∈xs.take k,p x=false
 | []=>.inl ⟨rfl,by simp⟩
 | x::xs=>by
  by_cases hx:p x=true
  ·exact .inr ⟨0,by simp,by simp [idxF,hx],by simpa using hx,by simp⟩
  ·have hx':p x=false:=by simpa using hx
   rcases idxF_cases p xs with ⟨h1,h2⟩|⟨k,hk,h1,h2,h3⟩
   ·exact .inl ⟨by simp [idxF,hx',h1],by simpa [hx'] using h2⟩
   ·refine .inr ⟨k+1,by simpa using hk,by simp only [idxF,hx',h1]; rw [if_neg (by simp),if_neg (by omega)]; omega,by simpa using h2,?_⟩
    simpa [List.take_succ_cons,hx'] using h3
theorem idxF_hit {p:α→Bool}:∀ {xs:List α} {k:Nat} (hx:k<xs.length),p xs[k]=true→(∀ x∈xs.take k,p x=false)→idxF p xs=k
 | x::xs,0,_,h,_=>by simp only [List.getElem_cons_zero] at h; simp [idxF,h]
 | x::xs,k+1,hx,h,hp=>by
  have h0:p x=false:=hp x (by simp)
  have:=idxF_hit (p:=p) (xs:=xs) (k:=k) (by simpa using hx) (by simpa using h) (fun y hy=>hp y (by simp [hy]))
  simp only [idxF,h0,this]
  rw [if_neg (by simp),if_neg (by omega)]; omega
theorem idxF_miss {p:α→Bool}:∀ {xs:List α},(∀ x∈xs,p x=false)→idxF p xs=-1
 | [],_=>rfl
 | x::xs,h=>by simp [idxF,h x (by simp),idxF_miss (p:=p) (xs:=xs) (fun y hy=>h y (by simp [hy]))]
theorem idxF_nonneg (p:α→Bool) (xs:List α):decide (0≤idxF p xs)=xs.any p:=by
 rcases idxF_cases p xs with ⟨h1,h2⟩|⟨k,hk,h1,h2,h3⟩
 ·rw [h1,List.any_eq_false.2 (fun x hx=>by simp [h2 x hx])]; rfl
 ·rw [h1,List.any_eq_true.2 ⟨_,List.getElem_mem hk,h2⟩,decide_eq_true (by omega)]
theorem all_take_succ {p:α→Bool} {xs:List α} {k:Nat} (hx:k<xs.length) (h:∀ x∈xs.take k,p x=false) (h3:p xs[k]=false):∀ x∈xs.take (k+1),p x=false:=by
 intro x hm
 rw [List.take_succ_eq_append_getElem hx,List.mem_append,List.mem_singleton] at hm
 rcases hm with hm|rfl
 ·exact h x hm
 ·exact h3
end
theorem splice_append :∀ (a b:List Value),b.length=a.length→∀ (c pre:List Value),spliceL pre.length b (pre++(a++c))=pre++(b++c)
 | [],b,h,c,pre=>by
  have:b=[]:=List.eq_nil_of_length_eq_zero h
  subst this; rw [splice_nil]
 | x::a,[],h,c,pre=>by simp at h
 | x::a,y::b,h,c,pre=>by
  rw [splice_set,List.set_append_right _ _ (Nat.le_refl _),Nat.sub_self,List.cons_append,List.set_cons_zero]
  have:=splice_append a b (by simpa using h) c (pre++[y])
  simp only [List.length_append,List.length_singleton,List.append_assoc,List.singleton_append] at this
  rw [this]; rfl
theorem copy_at {A D E F:List Value} {o m:Nat} (hA:A.length=o) (hm:D.length=m):(A++D++E).take o++F++(A++D++E).drop (o+m)=A++F++E:=by
 subst hA; subst hm
 have e1:(A++D++E).take A.length=A:=by rw [List.append_assoc,List.take_left]
 have e2:(A++D++E).drop (A.length+D.length)=E:=by rw [← List.length_append,List.drop_left]
 rw [e1,e2]
theorem zaJ {G G' : Prop} (h : G') (f : Zh G'→G:=by intro h; (repeat (first|refine zB ?_|refine zE ?_|refine zK M M M ?_|refine zP ?_|refine zI M ?_|refine L_add M M (by omega) (by omega) M M ?_)); exact h.o) : G:=f ⟨h⟩
theorem zaK {G G' : Prop} (h : G') (f : Zh G'→G:=by intro h; (repeat (first|refine zF ?_|refine yC ?_|refine zB ?_|refine zE ?_|refine zK M M M ?_|refine zM ?_|refine zI M ?_)); exact h.o) : G:=f ⟨h⟩
theorem zaH {G G' : Prop} (h : G') (f : Zh G'→G:=by intro h; (repeat (first|refine zF ?_|refine zB ?_)); exact h.o) : G:=f ⟨h⟩
theorem zaB {G G' : Prop} (h : G') (f : Zh G'→G:=by intro h; (repeat (first|refine zF ?_|refine zB ?_|refine zE ?_|refine zK M M M ?_|refine zM ?_|refine zJ M ?_)); exact h.o) : G:=f ⟨h⟩
theorem zaS {G G' : Prop} (h : G') (f : Zh G'→G:=by intro h; (repeat (first|refine zF ?_|refine zR ?_|refine zB ?_|refine zE ?_|refine zK M M M ?_|refine L_len M M M ?_)); exact h.o) : G:=f ⟨h⟩
theorem zcA {G G' : Prop} (h : G') (f : Zh G'→G:=by intro h; (repeat (first|refine zF ?_|refine zR ?_|refine zB ?_|refine zE ?_|refine zK M M M ?_|refine zP ?_|refine zJ M ?_|refine L_idx M M (by omega) M M ?_)); exact h.o) : G:=f ⟨h⟩
theorem indexFuncWr_spec (w0:World) (X:Hp) (v:Value) (xs:List Wr) (k0:Nat) [hf:Fun Tryz.prog k0] (caps:List Value) (p:Wr→Bool) (hv:RdL w0 X v xs) (hl:xs.length≤1000000000)
  (hp:∀ Y x e,x∈xs→Rep.rd w0 Y x e→Spec Tryz.prog w0 k0 (.agg e.toArray::caps) X (fun r h'=>r=.bool (p x)∧X=h')) :
  Spec Tryz.prog w0 140 [v,.func (.func k0) #[] caps.toArray] X (fun r h'=>r=.int .i64 (idxF p xs)∧X=h'):=by
 obtain ⟨a,c,rfl⟩:=hv.shape
 refine zN Tryz.func140 M Tryz.ntmps140 Tryz.results140 M fun fr=>?_
 refine zaS ?_
 refine hold_count xs.length (fun k g L=>∃ R:Hp,g=[(0,.slice a xs.length c),(1,.func (.func k0) #[] caps.toArray),(7,.int .i64 xs.length),(8,.int .i64 k)]∧L=X+fr+R∧∀ x∈xs.take k,p x=false) _ ⟨0,rfl,(yA _).symm,by simp⟩ zsb ?_
 rintro k g L hk ⟨R,rfl,rfl,hpre⟩
 refine zaH ?_
 refine yF M M (pv_lss M M) (fun h2=>?_) (fun h2=>?_)
 ·have hx:k<xs.length:=by omega
  obtain ⟨b2,o2,rfl,e,hr,hat⟩:=hv.at hx
  refine zcA ?_
  refine L_load M M (yE M) (zH M hat (beq_iff_eq.2 (Rep.len hr))) ?_
  refine zX M M (zQ M M (by simp<;>rfl)) (hp X xs[k] e (List.getElem_mem hx) hr) ?_
  rintro _ _ ⟨rfl,rfl⟩
  cases h3:p xs[k]
  ·refine zaJ ?_
   exact ⟨hx,_,zsb,_,rfl,yJ.out,all_take_succ hx hpre h3⟩
  ·refine zaB ?_
   exact ⟨[_],X,_,⟨rfl,trivial⟩,⟨by rw [idxF_hit hx h3 hpre]; rfl,rfl⟩,yJ.out⟩
 ·refine zaK ?_
  rw [List.take_of_length_le (by omega)] at hpre
  exact ⟨[_],X,_,⟨rfl,trivial⟩,⟨by rw [idxF_miss hpre]; rfl,rfl⟩,yJ.out⟩
theorem zaE {G G' : Prop} (h : G') (f : Zh G'→G:=by intro h; (repeat (first|refine zE ?_|refine zK M M M ?_|refine zM ?_)); exact h.o) : G:=f ⟨h⟩
theorem zaC {G G' : Prop} (h : G') (f : Zh G'→G:=by intro h; (repeat (first|refine zF ?_|refine zB ?_|refine zE ?_|refine zK M M M ?_)); exact h.o) : G:=f ⟨h⟩
theorem cloneBB_spec (w0:World) (X:Hp) (v:Value) (xs:List Bt) (hv:RdL w0 X v xs) (hl:xs.length≤1000000000000) :
  Spec Tryz.prog w0 145 [v] X (fun r h'=>∃ h,OwL w0 X xs r h∧X+h=h'):=by
 obtain ⟨es,h1,h2⟩:=id hv
 obtain ⟨a,c,rfl⟩:=hv.shape
 refine zN Tryz.func145 M Tryz.ntmps145 Tryz.results145 M fun fr=>?_
 refine zaC ?_
 refine L_bool M M (pv_slice_isnil M M) (fun h3=>?_) (fun h3=>?_)
 ·obtain rfl:xs=[]:=by
   cases xs with
   | nil=>rfl
   | cons x l =>
    obtain ⟨b,o,rfl,_⟩:=hv.at (i:=0) (by simp)
    simp at h3
  refine zaB ?_
  exact ⟨[_],X,_,⟨rfl,trivial⟩,⟨0,OwL.nil _ none,yA _⟩,yJ.out⟩
 ·repeat (first|refine zF ?_|refine zB ?_|refine zE ?_|refine zK M M M ?_|refine zP ?_|refine zI M ?_|refine L_bs (vs:=[]) (cells:=[]) M M M M M M (fun _=>?_))
  refine L_eff M M (ev_appendL (xs:=([]:List Bt)) (h:=0) M M (OwL.nil X _) (h1.frame) h2 M M M M M (by simp; omega)) ?_
  rintro v' _ ⟨h',hr',rfl⟩
  refine zaE ?_
  exact ⟨[_],X+h',_,⟨rfl,trivial⟩,⟨h',hr',rfl⟩,yJ.out⟩
end Sl
end Go.Proofs.YtfahijncpmlhjaaGreat
