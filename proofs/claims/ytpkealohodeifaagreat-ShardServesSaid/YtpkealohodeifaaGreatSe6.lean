/-
  What shardServes.proved hangs on, part 6 of 8: ShIb, ShIc, ShPd, NilF, ShPh, Fl2, ShLa, ShLb, ShLc, ShLe, ShCk, ShCl.
-/
import Derived.Test.YtpkealohodeifaaGreatSe4
import Derived.Test.YtpkealohodeifaaGreatSe5
import Derived.Test.YtpkealohodeifaaGreatSe1
import Derived.Test.YtpkealohodeifaaGreatSe3
set_option linter.unusedVariables false
set_option linter.unusedSimpArgs false
namespace Go.Proofs.YtpkealohodeifaaGreat
open Go Go.RowKit
namespace Sl
set_option maxRecDepth 4000
def Num (n:Int):Prop:=0≤n∧n≤1099511627776
theorem Num.i64 {n:Int} (h:Num n):I64 n:=by unfold Num at h; unfold I64; omega
structure OpOk (o:Opn):Prop where
 kind:1≤o.kind∧o.kind≤11
 client:0≤o.client∧o.client≤4
 seq:Num o.seq
 txn:Num o.txn
 age:Num o.age
 epoch:Num o.epoch
 snap:Num o.snap
 one:o.kind=1∨o.kind=2∨o.kind=3→1≤o.txn
 val:o.kind=3→1≤o.value∧o.value≤2
 block:0≤o.block∧o.block≤63
 span:SpanP o
 parts:o.parts.length≤4∧∀ n∈o.parts,1≤n∧n≤4
 reads:o.reads.length≤16∧∀ n∈o.reads,0≤n∧n≤63
 writes:o.writes.length≤8∧∀ w∈o.writes,(0≤w.block∧w.block≤63)∧w.data.length=4
 data:o.data.length≤32768
theorem check_ok {o:Opn} (h:checkF o=0):OpOk o:=by
 unfold checkF at h
 by_cases h1:¬ (1≤o.kind∧o.kind≤11)
 ·rw [if_pos h1] at h; exact absurd h (by decide)
 rw [if_neg h1] at h
 by_cases h2:¬ BareP o
 ·rw [if_pos h2] at h; exact absurd h (by decide)
 rw [if_neg h2] at h
 by_cases h3:4<o.parts.length∨16<o.reads.length∨8<o.writes.length
 ·rw [if_pos h3] at h; exact absurd h (by decide)
 rw [if_neg h3] at h
 by_cases h4:32768<o.data.length
 ·rw [if_pos h4] at h; exact absurd h (by decide)
 rw [if_neg h4] at h
 by_cases h5:¬ (PlacedP o∧InAll o.parts 1 4∧InAll o.reads 0 63∧InAll (o.writes.map Wr.block) 0 63)
 ·rw [if_pos h5] at h; exact absurd h (by decide)
 rw [if_neg h5] at h
 by_cases h6:¬ WritesP o
 ·rw [if_pos h6] at h; exact absurd h (by decide)
 have h1:=Classical.byContradiction h1
 obtain ⟨⟨p1,p2,p3,p4,p5⟩,q1,q2,q3⟩:=Classical.byContradiction h5
 have h6:=Classical.byContradiction h6
 obtain ⟨c1,c2,c3,c4,c5,c6⟩:=p1
 exact ⟨h1,c1,c2,c3,c4,c5,c6,p2.1,fun hk=>p3.1 (.inl hk),p3.2,p4,⟨by omega,q1⟩,⟨by omega,q2⟩,⟨by omega,fun w hw=>⟨q3 _ (List.mem_map_of_mem hw),h6 w hw⟩⟩,by omega⟩
structure PrpIn (p:Prp):Prop where
 txn:1≤p.txn∧p.txn≤1099511627776
 age:Num p.age
 snap:Num p.snap
 span:0≤p.lo∧p.lo≤p.hi∧p.hi≤64
 parts:p.parts.length≤4∧∀ n∈p.parts,1≤n∧n≤4
 writes:p.writes.length≤8∧∀ w∈p.writes,(0≤w.block∧w.block≤63)∧w.data.length=4
def SmallR (r:Res):Prop:=I64 r.code∧r.data.length≤100000000
structure Good (n:Nat) (s:Shd):Prop where
 ok:Okay s
 held:Held s.lo s.hi s.locks s.dead s.preps
 rng:0≤s.lo∧s.lo≤s.hi∧s.hi≤64
 ep:Num s.epoch
 bIn:∀ x∈s.blocks,s.lo≤x.no∧x.no<s.hi
 kIn:∀ x∈s.kept,(s.lo≤x.no∧x.no<s.hi)∧I64 x.snap
 prs:∀ p∈s.preps,PrpIn p
 outs:∀ u∈s.outs,(Num u.epoch∧Num u.lo∧Num u.hi)∧u.data.length≤100000000
 sess:∀ x∈s.sess,(Num x.client∧Num x.seq)∧SmallR x.res
 dl:s.dead.length≤4700*n
 pl:s.preps.length≤n
 kl:s.kept.length≤1400*n
 ol:s.outs.length≤n
 xl:s.sess.length≤n
theorem Good.more {n:Nat} {s:Shd} (h:Good n s):Good (n+1) s :=
 ⟨h.ok,h.held,h.rng,h.ep,h.bIn,h.kIn,h.prs,h.outs,h.sess,by have:=h.dl; omega,by have:=h.pl; omega,by have:=h.kl; omega,by have:=h.ol; omega,by have:=h.xl; omega⟩
theorem Good.sized {n:Nat} {s:Shd} (h:Good n s) (hn:n≤190):Sized s :=
 ⟨by have:=h.dl; omega,by have:=h.pl; omega,by have:=h.kl; omega,by have:=h.ol; omega,by have:=h.xl; omega⟩
theorem Good.ld {n:Nat} {s:Shd} (h:Good n s) {ls:List Lk} {d:List Int} (hh:Held s.lo s.hi ls d s.preps) (hs:Safe ls) (hr:Rises d) (hl:d.length≤4700*(n+1)):Good (n+1) (ldS s ls d) :=
 ⟨⟨h.ok.blocks,h.ok.kept,hs,hr,h.ok.preps⟩,hh,h.rng,h.ep,h.bIn,h.kIn,h.prs,h.outs,h.sess,hl,by have:=h.pl; exact Nat.le_trans this (Nat.le_succ _),by have:=h.kl; show s.kept.length≤_; omega,by have:=h.ol; exact Nat.le_trans this (Nat.le_succ _),by have:=h.xl; exact Nat.le_trans this (Nat.le_succ _)⟩
theorem not_prep {s:Shd} {t:Int} (h:¬ isPrep s t=true):∀ p∈s.preps,p.txn≠t:=fun p hp e=>h (List.any_eq_true.2 ⟨p,hp,decide_eq_true e⟩)
theorem endS_good {n:Nat} {s:Shd} (h:Good n s) {t:Int} (ht:1≤t∧t≤1099511627776) (hp:∀ p∈s.preps,p.txn≠t):Good (n+1) (endS s t):=by
 have hl:=endD_len [t] s.dead
 have:=h.dl
 rw [List.length_singleton] at hl
 exact h.ld (ls:=withoutL s.locks [t]) (d:=endD s.dead [t]) (h.held.ends (by simpa using ht) (by simpa using hp)) (h.ok.locks.without _) (endD_rises _ h.ok.dead) (by omega)
theorem forget_held {n:Nat} {s:Shd} (h:Good n s) (t:Int):Held s.lo s.hi s.locks (forgetS s t).dead s.preps∧Rises (forgetS s t).dead∧(forgetS s t).dead.length≤s.dead.length∧(t∉s.dead→t∉(forgetS s t).dead) :=
 ⟨h.held.sub fun x hx=>(List.mem_filter.1 hx).1,List.Pairwise.filter _ h.ok.dead,List.length_filter_le _ _,fun hn hm=>hn (List.mem_filter.1 hm).1⟩
theorem took_of {n:Nat} {s:Shd} (h:Good n s) {t:Int} (hd:t∉s.dead) (hp:∀ p∈s.preps,p.txn≠t) {ks:List Lk} (hk:∀ k∈ks,k.txn=t∧(s.lo≤k.block∧k.block<s.hi)∧(1≤k.txn∧k.txn≤1099511627776)∧(0≤k.age∧k.age≤1099511627776)) :
  Took (forgetS s t) t ks (tkAll (forgetS s t) ks) :=
 tkAll_took ks (forgetS s t) (forget_held h t).1 h.ok.locks (forget_held h t).2.1 ((forget_held h t).2.2.2 hd) hp hk
theorem Took.good {n:Nat} {s:Shd} (h:Good n s) {t:Int} {ks:List Lk} {x:Shd × Int} (hx:Took (forgetS s t) t ks x) (hl:ks.length≤72):Good (n+1) x.1∧x.1=ldS s x.1.locks x.1.dead:=by
 have e:x.1=ldS s x.1.locks x.1.dead:=hx.same
 have h1:=hx.len
 have h2:=(forget_held h t).2.2.1
 have h3:=h.dl
 refine ⟨?_,e⟩
 rw [e]
 exact h.ld hx.held hx.safe hx.rises (by omega)
theorem smallR_code {n:Int} (h:I64 n):SmallR ⟨n,[]⟩:=⟨h,Nat.zero_le _⟩
theorem lockS_code (ls:List Lk) (d:List Int) (k:Lk) (fx:List Int):(lockS ls d k fx).2.2=0∨(lockS ls d k fx).2.2=11∨(lockS ls d k fx).2.2=24:=by
 rcases lockS_cases ls d k fx with e|e|⟨a,w,_,e⟩<;>rw [e]<;>simp
theorem tkAll_code :∀ (ks:List Lk) (s:Shd),(tkAll s ks).2=0∨(tkAll s ks).2=11∨(tkAll s ks).2=24
 | [],s=>.inl G
 | k::ks,s=>by
  have es:tkAll s (k::ks)=ks.foldl tkStep (tkS s k):=by
   show ks.foldl tkStep (tkStep (s,0) k)=_
   rw [show tkStep (s,0) k=tkS s k by unfold tkStep; rw [if_neg (by simp)]]
  rw [es]
  by_cases hz:(tkS s k).2=0
  ·have e2:ks.foldl tkStep (tkS s k)=tkAll (tkS s k).1 ks:=by unfold tkAll; rw [← hz]
   rw [e2]; exact tkAll_code ks _
  ·rw [tkStep_bad hz]
   exact lockS_code s.locks s.dead k (s.preps.map Prp.txn)
theorem code_i64 {e:Int} (h:e=0∨e=11∨e=24):I64 e:=by unfold I64; omega
theorem inR_iff {s:Shd} {n:Int}:inR s n=true↔s.lo≤n∧n<s.hi:=by unfold inR; rw [decide_eq_true_eq]
theorem readF_good {n:Nat} {s:Shd} (h:Good n s) {o:Opn} (ho:OpOk o) (hk:o.kind=1):Good (n+1) (readF s o).1∧SmallR (readF s o).2:=by
 have ht:1≤o.txn∧o.txn≤1099511627776:=⟨ho.one (.inl hk),ho.txn.2⟩
 unfold readF
 split
 ·exact ⟨h.more,smallR_code (by decide)⟩
 ·rename_i h1
  split
  ·exact ⟨h.more,smallR_code (by decide)⟩
  ·rename_i h2
   split
   ·exact ⟨endS_good h ht (not_prep h1),smallR_code (by decide)⟩
   ·rename_i h3
    have hr:inR s o.block=true:=by
     cases hb:inR s o.block
     ·exact absurd (.inr hb) h3
     ·rfl
    have tk:=took_of h h2 (not_prep h1) (ks:=[⟨o.block,o.txn,o.age,false⟩]) (by
     intro k hk'
     rw [List.mem_singleton] at hk'; subst hk'
     exact ⟨rfl,inR_iff.1 hr,ht,ho.age⟩)
    have e:tkAll (forgetS s o.txn) [⟨o.block,o.txn,o.age,false⟩]=tkS (forgetS s o.txn) ⟨o.block,o.txn,o.age,false⟩:=by
     show tkStep (forgetS s o.txn,0) _=_
     unfold tkStep; rw [if_neg (by simp)]
    rw [e] at tk
    refine ⟨(tk.good h (by simp)).1,?_⟩
    split
    ·exact smallR_code (code_i64 (lockS_code _ _ _ _))
    ·exact ⟨(show I64 0 by decide),by have:=getB_len h.ok.blocks o.block; show (getB s.blocks o.block).length≤_; omega⟩
theorem mem_insP {ps:List Prp} {p x:Prp} (h:x∈insP ps p):x=p∨x∈ps:=by
 unfold insP at h
 rcases List.mem_append.1 h with h|h
 ·exact .inr (List.mem_filter.1 h).1
 ·rcases List.mem_cons.1 h with rfl|h
  ·exact .inl G
  ·exact .inr (List.mem_filter.1 h).1
theorem insP_len (ps:List Prp) (p:Prp):(insP ps p).length≤ps.length+1:=by
 have:=filter2_len (fun x:Prp=>decide (x.txn<p.txn)) (fun x:Prp=>decide (p.txn<x.txn)) (fun x h=>decide_eq_false (by have:=of_decide_eq_true h; omega)) ps
 unfold insP
 rw [List.length_append,List.length_cons]; omega
theorem insP_rises {ps:List Prp} (h:ps.Pairwise fun a b=>a.txn<b.txn) (p:Prp):(insP ps p).Pairwise fun a b=>a.txn<b.txn:=by
 unfold insP
 refine List.pairwise_append.2 ⟨h.filter _,List.pairwise_cons.2 ⟨fun x hx=>of_decide_eq_true (List.mem_filter.1 hx).2,h.filter _⟩,?_⟩
 intro x hx y hy
 have h1:x.txn<p.txn:=of_decide_eq_true (List.mem_filter.1 hx).2
 rcases List.mem_cons.1 hy with rfl|hy
 ·exact h1
 ·have h2:p.txn<y.txn:=of_decide_eq_true (List.mem_filter.1 hy).2
  omega
theorem cov_bounds {s:Shd} {o:Opn} (hr:s.lo≤s.hi) {j:Nat} (h:j<covN s o):s.lo≤covLo s o+(j:Int)∧covLo s o+(j:Int)<s.hi∧o.lo≤covLo s o+(j:Int)∧covLo s o+(j:Int)<o.hi:=by
 unfold covN at h
 split at h
 ·unfold covLo covHi at *; omega
 ·omega
theorem covN_le {s:Shd} {o:Opn} (hr:0≤s.lo∧s.hi≤64):covN s o≤64:=by
 unfold covN
 split
 ·unfold covLo covHi; omega
 ·omega
theorem prepLks_ok {n:Nat} {s:Shd} (h:Good n s) {o:Opn} (ho:OpOk o) (hk:o.kind=2) (hout:¬ outF s o=true):(∀ k∈prepLks s o,k.txn=o.txn∧(s.lo≤k.block∧k.block<s.hi)∧(1≤k.txn∧k.txn≤1099511627776)∧(0≤k.age∧k.age≤1099511627776))∧(prepLks s o).length≤72:=by
 have ht:1≤o.txn∧o.txn≤1099511627776:=⟨ho.one (.inr (.inl hk)),ho.txn.2⟩
 constructor
 ·intro k hm
  unfold prepLks at hm
  rcases List.mem_append.1 hm with hm|hm
  ·obtain ⟨w,hw,rfl⟩:=List.mem_map.1 hm
   refine ⟨rfl,?_,ht,ho.age⟩
   have:inR s w.block=true:=by
    cases hb:inR s w.block
    ·refine absurd ?_ hout
     unfold outF
     rw [Bool.or_eq_true]
     exact .inr (List.any_eq_true.2 ⟨w,hw,by rw [hb]; rfl⟩)
    ·rfl
   exact inR_iff.1 this
  ·obtain ⟨j,hj,rfl⟩:=List.mem_map.1 hm
   have:=cov_bounds h.rng.2.1 (List.mem_range.1 hj)
   exact ⟨rfl,⟨this.1,this.2.1⟩,ht,ho.age⟩
 ·rw [prepLks_len]
  have:=covN_le (o:=o) (s:=s) ⟨h.rng.1,h.rng.2.2⟩
  have:=ho.writes.1
  omega
theorem prepareF_good {n:Nat} {s:Shd} (h:Good n s) {o:Opn} (ho:OpOk o) (hk:o.kind=2):Good (n+1) (prepareF s o).1∧SmallR (prepareF s o).2:=by
 have ht:1≤o.txn∧o.txn≤1099511627776:=⟨ho.one (.inr (.inl hk)),ho.txn.2⟩
 unfold prepareF
 split
 ·exact ⟨h.more,smallR_code (by decide)⟩
 rename_i h1
 split
 ·exact ⟨h.more,smallR_code (by decide)⟩
 rename_i h2
 split
 ·exact ⟨endS_good h ht (not_prep h1),smallR_code (by decide)⟩
 rename_i h3
 split
 ·exact ⟨endS_good h ht (not_prep h1),smallR_code (by decide)⟩
 rename_i h4
 obtain ⟨hks,hkl⟩:=prepLks_ok h ho hk (fun hq=>h3 (.inr hq))
 have tk:=took_of h h2 (not_prep h1) hks
 obtain ⟨g1,g2⟩:=tk.good h hkl
 split
 ·exact ⟨g1,smallR_code (code_i64 (tkAll_code _ _))⟩
 rename_i h5
 have h5:=Classical.byContradiction h5
 obtain ⟨m1,m2,m3⟩:=tk.mine h5
 have hep:(tkAll (forgetS s o.txn) (prepLks s o)).1.preps=s.preps:=by rw [g2]; rfl
 have helo:(tkAll (forgetS s o.txn) (prepLks s o)).1.lo=s.lo∧(tkAll (forgetS s o.txn) (prepLks s o)).1.hi=s.hi:=by rw [g2]; exact ⟨rfl,rfl⟩
 generalize (tkAll (forgetS s o.txn) (prepLks s o)).1=x at *
 have hsp:0≤o.lo∧o.lo≤o.hi∧o.hi≤64:=by
  obtain ⟨s1,s2⟩:=ho.span
  by_cases hsn:o.snap=0
  ·have:=s1 hk hsn; omega
  ·have:=s2 (.inl ⟨hk,hsn⟩); omega
 have hpp:∀ p∈insP s.preps (prepOf o),p=prepOf o∨p∈s.preps:=fun p hp=>mem_insP hp
 refine ⟨⟨⟨g1.ok.blocks,g1.ok.kept,g1.ok.locks,g1.ok.dead,insP_rises h.ok.preps _⟩,⟨g1.held.lks,g1.held.apart,fun p hp=>?_,fun p hp w hw=>?_,g1.held.dn⟩,g1.rng,g1.ep,g1.bIn,g1.kIn,fun p hp=>?_,g1.outs,g1.sess,g1.dl,?_,g1.kl,g1.ol,g1.xl⟩,smallR_code (by decide)⟩
 ·rcases hpp p hp with rfl|hp
  ·exact m1
  ·exact g1.held.pd p (by rw [hep]; exact hp)
 ·rcases hpp p hp with rfl|hp
  ·refine m2 ⟨w.block,o.txn,o.age,true⟩ (List.mem_append_left _ (List.mem_map.2 ⟨w,hw,rfl⟩))
  ·exact g1.held.wr p (by rw [hep]; exact hp) w hw
 ·rcases hpp p hp with rfl|hp
  ·exact ⟨ht,ho.age,ho.snap,hsp,ho.parts,ho.writes⟩
  ·exact h.prs p hp
 ·have:=insP_len s.preps (prepOf o)
  have:=h.pl
  show (insP s.preps (prepOf o)).length≤_
  omega
theorem mem_setB {l:List Blk} {no:Int} {b:List Bt} {x:Blk} (h:x∈setB l no b):x∈l∨x.no=no:=by
 unfold setB newB at h
 split at h
 ·rcases List.mem_append.1 h with h|h
  ·rcases List.mem_append.1 h with h|h
   ·exact .inl (List.mem_filter.1 h).1
   ·split at h
    ·simp at h
    ·rw [List.mem_singleton] at h; subst h; exact .inr G
  ·exact .inl (List.mem_filter.1 h).1
 ·exact .inl h
theorem mem_wroteB :∀ (ws:List Wr) (l:List Blk) {x:Blk},x∈wroteB l ws→x∈l∨∃ w∈ws,x.no=w.block
 | [],_,_,h=>.inl h
 | w::ws,l,x,h=>by
  rcases mem_wroteB ws (setB l w.block w.data) h with h|⟨v,hv,e⟩
  ·rcases mem_setB h with h|h
   ·exact .inl h
   ·exact .inr ⟨w,List.mem_cons_self ..,h⟩
  ·exact .inr ⟨v,List.mem_cons_of_mem _ hv,e⟩
theorem mem_keepK {l:List Kpt} {snap no:Int} {d:List Bt} {x:Kpt} (h:x∈keepK l snap no d):x∈l∨x=⟨snap,no,d⟩:=by
 unfold keepK at h
 rcases List.mem_append.1 h with h|h
 ·exact .inl (List.mem_filter.1 h).1
 ·rcases List.mem_cons.1 h with rfl|h
  ·exact .inr G
  ·exact .inl (List.mem_filter.1 h).1
theorem mem_keptAll (bs:List Blk) (snap:Int):∀ (ns:List Int) (l:List Kpt) {x:Kpt},x∈keptAll l snap bs ns→x∈l∨∃ n∈ns,x=⟨snap,n,getB bs n⟩
 | [],_,_,h=>.inl h
 | n::ns,l,x,h=>by
  rcases mem_keptAll bs snap ns (keepK l snap n (getB bs n)) h with h|⟨v,hv,e⟩
  ·rcases mem_keepK h with h|h
   ·exact .inl h
   ·exact .inr ⟨n,List.mem_cons_self ..,h⟩
  ·exact .inr ⟨v,List.mem_cons_of_mem _ hv,e⟩
theorem commit_good {n:Nat} {s:Shd} (h:Good n s) {p:Prp} (hp:p∈s.preps):Okay (commitS s p)∧(∀ x∈(commitS s p).blocks,s.lo≤x.no∧x.no<s.hi)∧(∀ x∈(commitS s p).kept,(s.lo≤x.no∧x.no<s.hi)∧I64 x.snap)∧(commitS s p).kept.length≤1400*n+64:=by
 have hb:=wroteB_ok p.writes h.ok.blocks
 have hm:=mineF_len s.locks p
 have hl:=keptAll_len (wroteB s.blocks p.writes) p.snap (mineF s.locks p) s.kept
 have hkl:=h.kl
 refine ⟨⟨hb,keptAll_ok hb _ _ h.ok.kept,h.ok.locks,h.ok.dead,h.ok.preps⟩,fun x hx=>?_,fun x hx=>?_,by show (keptAll s.kept p.snap (wroteB s.blocks p.writes) (mineF s.locks p)).length≤_; omega⟩
 ·rcases mem_wroteB p.writes s.blocks hx with hx|⟨w,hw,e⟩
  ·exact h.bIn x hx
  ·obtain ⟨k,hk,e1,e2,e3⟩:=hasL_iff.1 (h.held.wr p hp w hw)
   rw [e,← e1]
   exact (h.held.lks k hk).1
 ·rcases mem_keptAll _ _ _ _ hx with hx|⟨m,hm,rfl⟩
  ·exact h.kIn x hx
  ·obtain ⟨_,_,_,_,_,_,hh⟩:=mine_mem hm
   obtain ⟨k,hk,e1,e2,e3⟩:=hasL_iff.1 hh
   exact ⟨by show s.lo≤m∧m<s.hi; rw [← e1]; exact (h.held.lks k hk).1,(h.prs p hp).snap.i64⟩
theorem decide1_good {n:Nat} {s:Shd} (h:Good n s) (o:Opn):Good (n+1) (decide1 s o)∧(decide1 s o).dead=s.dead∧(∀ p∈(decide1 s o).preps,p.txn≠o.txn)∧(decide1 s o).locks=s.locks:=by
 unfold decide1
 split
 ·rename_i p hf
  have hp:=List.mem_of_find?_eq_some hf
  have hpl:=filter_len (fun q=>!isTx o.txn q) s.preps
  have h1:=h.dl; have h2:=h.pl; have h3:=h.kl; have h4:=h.ol; have h5:=h.xl
  have hne:∀ q∈s.preps.filter (fun q=>!isTx o.txn q),q.txn≠o.txn:=fun q hq e=>by
   have:=(List.mem_filter.1 hq).2
   rw [show isTx o.txn q=true from decide_eq_true e] at this
   cases this
  have hsub:∀ q∈s.preps.filter (fun q=>!isTx o.txn q),q∈s.preps:=fun q hq=>(List.mem_filter.1 hq).1
  split
  ·obtain ⟨c1,c2,c3,c4⟩:=commit_good h hp
   exact ⟨⟨⟨c1.blocks,c1.kept,h.ok.locks,h.ok.dead,h.ok.preps.filter _⟩,h.held.less hsub,h.rng,h.ep,c2,c3,fun q hq=>h.prs q (hsub q hq),h.outs,h.sess,by show s.dead.length≤_; omega,by show (s.preps.filter _).length≤_; omega,by show (commitS s p).kept.length≤_; omega,by show s.outs.length≤_; omega,by show s.sess.length≤_; omega⟩,rfl,hne,rfl⟩
  ·exact ⟨⟨⟨h.ok.blocks,h.ok.kept,h.ok.locks,h.ok.dead,h.ok.preps.filter _⟩,h.held.less hsub,h.rng,h.ep,h.bIn,h.kIn,fun q hq=>h.prs q (hsub q hq),h.outs,h.sess,by show s.dead.length≤_; omega,by show (s.preps.filter _).length≤_; omega,by show s.kept.length≤_; omega,by show s.outs.length≤_; omega,by show s.sess.length≤_; omega⟩,rfl,hne,rfl⟩
 ·rename_i hf
  refine ⟨h.more,rfl,fun p hp e=>?_,rfl⟩
  have:=List.find?_eq_none.1 hf p hp
  exact this (decide_eq_true e)
theorem decideF_good {n:Nat} {s:Shd} (h:Good n s) {o:Opn} (ho:OpOk o) (hk:o.kind=3):Good (n+1) (decideF s o).1∧SmallR (decideF s o).2:=by
 have ht:1≤o.txn∧o.txn≤1099511627776:=⟨ho.one (.inr (.inr hk)),ho.txn.2⟩
 obtain ⟨g,e1,e2,e3⟩:=decide1_good h o
 unfold decideF
 refine ⟨?_,smallR_code (by decide)⟩
 show Good (n+1) (if _ then _ else _)
 split
 ·have hl:=endD_len [o.txn] s.dead
  rw [List.length_singleton] at hl
  have:=h.dl
  have hh:Held (decide1 s o).lo (decide1 s o).hi (withoutL (decide1 s o).locks [o.txn]) (endD (decide1 s o).dead [o.txn]) (decide1 s o).preps:=g.held.ends (by simpa using ht) (by simpa using e2)
  exact ⟨⟨g.ok.blocks,g.ok.kept,g.ok.locks.without _,endD_rises _ g.ok.dead,g.ok.preps⟩,hh,g.rng,g.ep,g.bIn,g.kIn,g.prs,g.outs,g.sess,by show (endD (decide1 s o).dead [o.txn]).length≤_; rw [e1]; omega,g.pl,g.kl,g.ol,g.xl⟩
 ·exact g
theorem mem_ofS {s:Shd} {lo hi x:Int}:x∈ofS s lo hi↔∃ k∈s.locks,lo≤k.block∧k.block<hi∧k.txn=x:=by
 unfold ofS
 rw [mem_compI,mem_sortI]
 unfold ofL
 rw [List.mem_map]
 constructor
 ·rintro ⟨k,hk,rfl⟩
  obtain ⟨h1,h2⟩:=List.mem_filter.1 hk
  simp only [spanB,Bool.and_eq_true,decide_eq_true_eq] at h2
  exact ⟨k,h1,h2.1,h2.2,rfl⟩
 ·rintro ⟨k,hk,h1,h2,rfl⟩
  exact ⟨k,List.mem_filter.2 ⟨hk,by simp only [spanB,Bool.and_eq_true,decide_eq_true_eq]; exact ⟨h1,h2⟩⟩,rfl⟩
theorem ofS_len (s:Shd) (h:s.locks.length≤64) (lo hi:Int):(ofS s lo hi).length≤64:=by
 unfold ofS
 have q1:=compI_le (sortI (ofL s.locks lo hi))
 have q2:=ofL_le s.locks lo hi
 rw [sortI_length] at q1; omega
theorem inS_iff {lo hi n:Int}:inS lo hi n=true↔lo≤n∧n<hi:=by unfold inS; rw [decide_eq_true_eq]
theorem out_span {s:Shd} {lo hi n:Int} (hlh:lo<hi) (hc:¬ (lo<s.lo∨s.hi<hi∨(lo≠s.lo∧hi≠s.hi))) (h1:s.lo≤n∧n<s.hi) (h2:¬ (lo≤n∧n<hi)):(goneS s lo hi).lo≤n∧n<(goneS s lo hi).hi:=by
 show (if _ then _ else _)≤n∧n<(if _ then _ else _)
 split
 ·omega
 ·split<;>omega
theorem partData_len {n:Nat} {s:Shd} (h:Good n s) (hn:n≤190) (lo hi:Int):(partData s lo hi).length≤100000000:=by
 have hl:=partE_len (l:=s.blocks.filter fun x=>inS lo hi x.no) (k:=s.kept.filter (inK lo hi)) (fun x hx=>h.ok.blocks.four x (List.mem_filter.1 hx).1) (fun x hx=>h.ok.kept.1 x (List.mem_filter.1 hx).1)
 have h1:=filter_len (fun x:Blk=>inS lo hi x.no) s.blocks
 have h2:=filter_len (inK lo hi) s.kept
 have h3:=h.ok.blocks.len
 have h4:=h.kl
 unfold partData
 omega
theorem freezeF_good {n:Nat} {s:Shd} (h:Good n s) (hn:n≤190) {o:Opn} (ho:OpOk o) (hk:o.kind=5):Good (n+1) (freezeF s o).1∧SmallR (freezeF s o).2:=by
 have hsp:=ho.span.2 (.inr (.inl hk))
 unfold freezeF
 split
 ·rename_i u hu
  exact ⟨h.more,(show I64 0 by decide),(h.outs u (List.mem_of_find?_eq_some hu)).2⟩
 split
 ·exact ⟨h.more,smallR_code (by decide)⟩
 split
 ·exact ⟨h.more,smallR_code (by decide)⟩
 rename_i hc
 split
 ·exact ⟨h.more,smallR_code (by decide)⟩
 rename_i hb
 have hpd:=partData_len h hn o.lo o.hi
 have hof:=ofS_len s h.ok.locks.few o.lo o.hi
 have hdl:=endD_len (ofS s o.lo o.hi) s.dead
 have hkl:=filter_len (fun x=>!inK o.lo o.hi x) s.kept
 have h1:=h.dl; have h2:=h.pl; have h3:=h.kl; have h4:=h.ol; have h5:=h.xl
 have ht:∀ t∈ofS s o.lo o.hi,1≤t∧t≤1099511627776:=by
  intro t ht
  obtain ⟨k,hk1,_,_,rfl⟩:=mem_ofS.1 ht
  exact (h.held.lks k hk1).2.1
 have hp:∀ p∈s.preps,p.txn∉ofS s o.lo o.hi:=by
  intro p hp hm
  exact hb (List.any_eq_true.2 ⟨_,hm,List.any_eq_true.2 ⟨p,hp,decide_eq_true G⟩⟩)
 have hh:=h.held.ends ht hp
 have hrng:0≤(goneS (endAll s (ofS s o.lo o.hi)) o.lo o.hi).lo∧(goneS (endAll s (ofS s o.lo o.hi)) o.lo o.hi).lo≤(goneS (endAll s (ofS s o.lo o.hi)) o.lo o.hi).hi∧(goneS (endAll s (ofS s o.lo o.hi)) o.lo o.hi).hi≤64:=by
  have:=h.rng
  show 0≤(if o.lo=s.lo∧o.hi=s.hi then 0 else if o.lo=s.lo then o.hi else s.lo)∧(if o.lo=s.lo∧o.hi=s.hi then 0 else if o.lo=s.lo then o.hi else s.lo)≤(if o.lo=s.lo∧o.hi=s.hi then 0 else if o.lo=s.lo then s.hi else o.lo)∧(if o.lo=s.lo∧o.hi=s.hi then 0 else if o.lo=s.lo then s.hi else o.lo)≤64
  split
  ·omega
  ·split<;>omega
 refine ⟨⟨⟨⟨fun x hx=>h.ok.blocks.1 x (List.mem_filter.1 hx).1,h.ok.blocks.2.filter _⟩,⟨fun x hx=>h.ok.kept.1 x (List.mem_filter.1 hx).1,h.ok.kept.2.filter _⟩,h.ok.locks.without _,endD_rises _ h.ok.dead,h.ok.preps⟩,hh.span ?_,hrng,ho.epoch,?_,?_,h.prs,?_,h.sess,?_,?_,?_,?_,?_⟩,(show I64 0 by decide),hpd⟩
 ·intro k hk1
  obtain ⟨k1,k2⟩:=mem_withoutL.1 hk1
  refine out_span hsp.2.1 hc (h.held.lks k k1).1 (fun hq=>k2 (mem_ofS.2 ⟨k,k1,hq.1,hq.2,rfl⟩))
 ·intro x hx
  obtain ⟨x1,x2⟩:=List.mem_filter.1 hx
  exact out_span hsp.2.1 hc (h.bIn x x1) (fun hq=>by rw [inS_iff.2 hq] at x2; cases x2)
 ·intro x hx
  obtain ⟨x1,x2⟩:=List.mem_filter.1 hx
  exact ⟨out_span hsp.2.1 hc (h.kIn x x1).1 (fun hq=>by rw [show inK o.lo o.hi x=true from inS_iff.2 hq] at x2; cases x2),(h.kIn x x1).2⟩
 ·intro u hu
  rcases List.mem_append.1 hu with hu|hu
  ·exact h.outs u hu
  ·rw [List.mem_singleton] at hu; subst hu
   exact ⟨⟨ho.epoch,⟨hsp.1,by show o.lo≤_; omega⟩,⟨by show 0≤o.hi; omega,by show o.hi≤_; omega⟩⟩,hpd⟩
 ·show (endD s.dead (ofS s o.lo o.hi)).length≤_; omega
 ·show s.preps.length≤_; omega
 ·show (s.kept.filter _).length≤_; omega
 ·show (s.outs++[_]).length≤_; rw [List.length_append,List.length_singleton]; omega
 ·show s.sess.length≤_; omega
theorem mem_joinB :∀ (m:List Blk) (l:List Blk) {x:Blk},x∈joinB l m→x∈l∨∃ y∈m,x.no=y.no
 | [],_,_,h=>.inl h
 | y::m,l,x,h=>by
  rcases mem_joinB m (setB l y.no y.data) h with h|⟨v,hv,e⟩
  ·rcases mem_setB h with h|h
   ·exact .inl h
   ·exact .inr ⟨y,List.mem_cons_self ..,h⟩
  ·exact .inr ⟨v,List.mem_cons_of_mem _ hv,e⟩
theorem part_some {d:List Bt} {lo hi:Int} {l:List Blk} {k:List Kpt} (h:partF d lo hi=some (l,k)):PartOk lo hi l k∧l=(partB d).1∧k=(partK d).1:=by
 unfold partF at h
 split at h
 ·rename_i hh
  simp only [Option.some.injEq,Prod.mk.injEq] at h
  obtain ⟨rfl,rfl⟩:=h
  exact ⟨hh.2,rfl,rfl⟩
 ·cases h
theorem intV_i64 (s:RS):I64 (intV s):=by
 unfold intV
 split
 ·exact dec8_in _
 ·decide
theorem manyS_all {σ α:Type} (f:σ→α × σ) (p:α→Prop) (hf:∀ s,p (f s).1):∀ k s,∀ x∈(manyS f k s).1,p x
 | 0,s,x,hx=>by simp [manyS] at hx
 | k+1,s,x,hx=>by
  rcases List.mem_append.1 (show x∈(manyS f k s).1++[_] from hx) with hx|hx
  ·exact manyS_all f p hf k s x hx
  ·rw [List.mem_singleton] at hx; subst hx; exact hf _
theorem listV_all {α:Type} (one:RS × Bool→α × (RS × Bool)) (least:Nat) (p:α→Prop) (hf:∀ s,p (one s).1) (s:RS × Bool):∀ x∈(listV one least s).1,p x:=by
 unfold listV
 split
 ·exact manyS_all one p hf _ _
 ·simp
theorem listV_24 (s:RS):(listV oneKpt 24 (s,false)).1.length*24≤s.left.length:=by
 have h1:(intS s).left.length≤s.left.length:=takeS_len s 8
 unfold listV
 split
 ·rename_i h
  rw [manyS_length]
  dsimp only at h ⊢
  have h3:(intV s).toNat≤(intS s).left.length / 24:=by have:=h.2; omega
  omega
 ·simp
theorem partK_len (d:List Bt):(partK d).1.length*24≤d.length:=by
 have lB:(partB d).2.1.left.length≤d.length:=listV_len oneBlk_len 16 _
 exact Nat.le_trans (listV_24 _) lB
theorem part_apart {n:Nat} {s:Shd} (h:Good n s) {o:Opn} (hsp:0≤o.lo∧o.lo<o.hi∧o.hi≤64) {l:List Blk} {k:List Kpt} (hp:PartOk o.lo o.hi l k) (hc:¬ (s.lo≠s.hi∧o.hi≠s.lo∧o.lo≠s.hi)):Apart s.kept k:=by
 intro x hx y hy
 have h1:=(h.kIn x hx).1
 have h2:=inS_iff.1 (hp.2.2.2 y hy).2
 have:x.no≠y.no:=by omega
 unfold ltK ltKey
 omega
theorem installF_good {n:Nat} {s:Shd} (h:Good n s) {o:Opn} (ho:OpOk o) (hk:o.kind=6):Good (n+1) (installF s o).1∧SmallR (installF s o).2:=by
 have hsp:=ho.span.2 (.inr (.inr (.inl hk)))
 unfold installF
 split
 ·exact ⟨h.more,smallR_code (by decide)⟩
 split
 ·exact ⟨h.more,smallR_code (by decide)⟩
 split
 ·exact ⟨h.more,smallR_code (by decide)⟩
 rename_i hc
 split
 ·exact ⟨h.more,smallR_code (by decide)⟩
 rename_i l k hp
 obtain ⟨hpo,rfl,rfl⟩:=part_some hp
 have hap:=part_apart h hsp hpo hc
 have hkl:=partK_len o.data
 have hod:=ho.data
 have h1:=h.dl; have h2:=h.pl; have h3:=h.kl; have h4:=h.ol; have h5:=h.xl
 have hrg:=h.rng
 generalize (partB o.data).1=l at *
 have hks:∀ y∈(partK o.data).1,I64 y.snap:=listV_all oneKpt 24 (fun y=>I64 y.snap) (fun s=>intV_i64 _) _
 generalize (partK o.data).1=kk at *
 have hin:∀ m:Int,s.lo≤m∧m<s.hi→(comeS s o l kk).lo≤m∧m<(comeS s o l kk).hi:=by
  intro m hm
  show min (if s.lo=s.hi then o.lo else s.lo) o.lo≤m∧m<max (if s.lo=s.hi then o.hi else s.hi) o.hi
  split<;>omega
 have hin2:∀ m:Int,o.lo≤m∧m<o.hi→(comeS s o l kk).lo≤m∧m<(comeS s o l kk).hi:=by
  intro m hm
  show min (if s.lo=s.hi then o.lo else s.lo) o.lo≤m∧m<max (if s.lo=s.hi then o.hi else s.hi) o.hi
  split<;>omega
 refine ⟨⟨⟨joinB_ok _ h.ok.blocks,⟨fun x hx=>?_,sortK_strict h.ok.kept hpo.2.2.1 hap⟩,h.ok.locks,h.ok.dead,h.ok.preps⟩,h.held.span (fun k hk1=>hin _ (h.held.lks k hk1).1),?_,ho.epoch,?_,?_,h.prs,h.outs,h.sess,?_,?_,?_,?_,?_⟩,smallR_code (by decide)⟩
 ·rcases List.mem_append.1 ((sortK_perm _).mem_iff.1 hx) with hx|hx
  ·exact h.ok.kept.1 x hx
  ·exact hpo.2.2.1.1 x hx
 ·show 0≤min (if s.lo=s.hi then o.lo else s.lo) o.lo∧min (if s.lo=s.hi then o.lo else s.lo) o.lo≤max (if s.lo=s.hi then o.hi else s.hi) o.hi∧max (if s.lo=s.hi then o.hi else s.hi) o.hi≤64
  split<;>omega
 ·intro x hx
  rcases mem_joinB _ _ hx with hx|⟨y,hy,e⟩
  ·exact hin _ (h.bIn x hx)
  ·rw [e]; exact hin2 _ (inS_iff.1 (hpo.2.1 y hy))
 ·intro x hx
  rcases List.mem_append.1 ((sortK_perm _).mem_iff.1 hx) with hx|hx
  ·exact ⟨hin _ (h.kIn x hx).1,(h.kIn x hx).2⟩
  ·exact ⟨hin2 _ (inS_iff.1 (hpo.2.2.2 x hx).2),hks x hx⟩
 ·show s.dead.length≤_; omega
 ·show s.preps.length≤_; omega
 ·show (sortK (s.kept++kk)).length≤_; rw [(sortK_perm _).length_eq,List.length_append]; omega
 ·show s.outs.length≤_; omega
 ·show s.sess.length≤_; omega
theorem dropF_good {n:Nat} {s:Shd} (h:Good n s) (o:Opn):Good (n+1) (dropF s o).1∧SmallR (dropF s o).2:=by
 have g:=h.more
 have hl:=filter_len (fun u=>!isOut o.epoch u) s.outs
 have:=h.ol
 exact ⟨⟨⟨g.ok.blocks,g.ok.kept,g.ok.locks,g.ok.dead,g.ok.preps⟩,g.held,g.rng,g.ep,g.bIn,g.kIn,g.prs,fun u hu=>g.outs u (List.mem_filter.1 hu).1,g.sess,g.dl,g.pl,g.kl,by show (s.outs.filter _).length≤_; omega,g.xl⟩,smallR_code (by decide)⟩
theorem stepF_good {n:Nat} {s:Shd} (h:Good n s) (hn:n≤190) {o:Opn} (ho:OpOk o):Good (n+1) (stepF s o).1∧SmallR (stepF s o).2:=by
 unfold stepF
 split
 ·exact readF_good h ho ‹_›
 split
 ·exact prepareF_good h ho ‹_›
 split
 ·exact decideF_good h ho ‹_›
 split
 ·exact freezeF_good h hn ho ‹_›
 split
 ·exact installF_good h ho ‹_›
 ·exact dropF_good h o
end Sl
end Go.Proofs.YtpkealohodeifaaGreat
namespace Go.Proofs.YtpkealohodeifaaGreat
open Go Go.RowKit
namespace Sl
set_option maxRecDepth 4000
theorem tkAll_same :∀ (ks:List Lk) (s:Shd),(tkAll s ks).1=ldS s (tkAll s ks).1.locks (tkAll s ks).1.dead
 | [],s=>rfl
 | k::ks,s=>by
  have es:tkAll s (k::ks)=ks.foldl tkStep (tkS s k):=by
   show ks.foldl tkStep (tkStep (s,0) k)=_
   rw [show tkStep (s,0) k=tkS s k by unfold tkStep; rw [if_neg (by simp)]]
  rw [es]
  by_cases hz:(tkS s k).2=0
  ·have e2:ks.foldl tkStep (tkS s k)=tkAll (tkS s k).1 ks:=by unfold tkAll; rw [← hz]
   rw [e2]; exact tkAll_same ks (tkS s k).1
  ·rw [tkStep_bad hz]; rfl
theorem stepF_sess (s:Shd) (o:Opn):(stepF s o).1.sess=s.sess:=by
 unfold stepF
 split
 ·unfold readF
  split
  ·rfl
  split
  ·rfl
  split
  ·rfl
  ·rfl
 split
 ·unfold prepareF
  split
  ·rfl
  split
  ·rfl
  split
  ·rfl
  split
  ·rfl
  split
  ·show (tkAll (forgetS s o.txn) (prepLks s o)).1.sess=_; rw [tkAll_same]; rfl
  ·show (tkAll (forgetS s o.txn) (prepLks s o)).1.sess=_; rw [tkAll_same]; rfl
 split
 ·unfold decideF
  have h:(decide1 s o).sess=s.sess:=by
   unfold decide1
   split
   ·show (if _ then _ else _:Shd).sess=_
    split<;>rfl
   ·rfl
  show (if _ then endS (decide1 s o) o.txn else decide1 s o).sess=_
  split
  ·exact h
  ·exact h
 split
 ·unfold freezeF
  split
  ·rfl
  split
  ·rfl
  split
  ·rfl
  split
  ·rfl
  ·rfl
 split
 ·unfold installF
  split
  ·rfl
  split
  ·rfl
  split
  ·rfl
  split
  ·rfl
  ·rfl
 ·rfl
theorem mem_noteF {l:List Ses} {c q:Int} {r:Res} {x:Ses} (h:x∈noteF l c q r):x∈l∨x=⟨c,q,r⟩:=by
 unfold noteF at h
 split at h
 ·exact .inl h
 split at h
 ·rcases List.mem_or_eq_of_mem_set h with h|rfl
  ·exact .inl h
  ·exact .inr G
 split at h
 ·rcases List.mem_append.1 h with h|h
  ·exact .inl h
  ·exact .inr (List.mem_singleton.1 h)
 ·rcases List.mem_append.1 h with h|h
  ·exact .inl (List.mem_of_mem_take h)
  ·rcases List.mem_cons.1 h with rfl|h
   ·exact .inr G
   ·exact .inl (List.mem_of_mem_drop h)
theorem noteF_len (l:List Ses) (c q:Int) (r:Res):(noteF l c q r).length≤l.length+1:=by
 unfold noteF
 split
 ·omega
 split
 ·rw [List.length_set]; omega
 split
 ·rw [List.length_append,List.length_singleton]; omega
 ·rw [List.length_append,List.length_cons,List.length_take,List.length_drop]; omega
theorem checkF_code (o:Opn):I64 (checkF o):=by
 unfold checkF
 split
 ·decide
 split
 ·decide
 split
 ·decide
 split
 ·decide
 split
 ·decide
 split
 ·decide
 split
 ·decide
 ·decide
theorem askF_small {l:List Ses} (h:∀ x∈l,SmallR x.res) (c q:Int):SmallR (askF l c q).1:=by
 unfold askF
 split
 ·exact smallR_code (by decide)
 split
 ·exact smallR_code (by decide)
 ·rename_i s hs
  split
  ·exact smallR_code (by decide)
  split
  ·exact smallR_code (by decide)
  ·exact h s (List.mem_of_find?_eq_some hs)
theorem note_good {n:Nat} {s x:Shd} (h:Good n s) {o:Opn} (ho:OpOk o) (g:Good (n+1) x) (hx:x.sess=s.sess) {r:Res} (hr:SmallR r):Good (n+1) (noteS x o r):=by
 refine ⟨⟨g.ok.blocks,g.ok.kept,g.ok.locks,g.ok.dead,g.ok.preps⟩,g.held,g.rng,g.ep,g.bIn,g.kIn,g.prs,g.outs,fun y hy=>?_,g.dl,g.pl,g.kl,g.ol,?_⟩
 ·rcases mem_noteF hy with hy|rfl
  ·exact g.sess y hy
  ·exact ⟨⟨⟨ho.client.1,by show o.client≤_; have:=ho.client.2; omega⟩,ho.seq⟩,hr⟩
 ·have h1:=noteF_len x.sess o.client o.seq r
  rw [hx] at h1
  have:=h.xl
  show (noteF x.sess o.client o.seq r).length≤_
  rw [hx]; omega
theorem applyF_good {n:Nat} {s:Shd} (h:Good n s) (hn:n≤190) (o:Opn):Good (n+1) (applyF s o).1∧SmallR (applyF s o).2:=by
 unfold applyF
 split
 ·exact ⟨h.more,smallR_code (checkF_code o)⟩
 rename_i hc
 have ho:=check_ok (Classical.byContradiction hc)
 split
 ·exact ⟨h.more,smallR_code (by decide)⟩
 split
 ·exact ⟨h.more,askF_small (fun x hx=>(h.sess x hx).2) _ _⟩
 split
 ·exact ⟨h.more,smallR_code (by decide)⟩
 ·obtain ⟨g,hr⟩:=stepF_good h hn ho
  exact ⟨note_good h ho g (stepF_sess s o) hr,hr⟩
theorem Good.shdIn {n:Nat} {s:Shd} (h:Good n s) (hn:n≤191):ShdIn s:=by
 have h0:=h.rng
 have b1:=h.ok.blocks.len
 have l1:=h.ok.locks.few
 have d1:=h.dl; have d2:=h.pl; have d3:=h.kl; have d4:=h.ol; have d5:=h.xl
 have i1:∀ n:Int,0≤n∧n≤64→I64 n:=fun n hn=>by unfold I64; omega
 have i2:∀ n:Int,1≤n∧n≤1099511627776→I64 n:=fun n hn=>by unfold I64; omega
 refine ⟨⟨i1 _ (by omega),i1 _ (by omega),h.ep.i64⟩,fun x hx=>?_,fun x hx=>?_,fun x hx=>?_,fun x hx=>?_,fun x hx=>i2 _ (h.held.dn x hx),fun x hx=>?_,fun x hx=>?_,by omega⟩
 ·have:=h.bIn x hx
  have:=h.ok.blocks.four x hx
  exact ⟨i1 _ (by omega),by unfold SmallB; omega⟩
 ·have:=h.kIn x hx
  have:=h.ok.kept.1 x hx
  exact ⟨(h.kIn x hx).2,i1 _ (by omega),by unfold SmallB; omega⟩
 ·obtain ⟨q1,q2,q3⟩:=h.held.lks x hx
  exact ⟨i1 _ (by omega),i2 _ q2,by unfold I64; omega⟩
 ·have p:=h.prs x hx
  refine ⟨⟨i2 _ p.txn,p.age.i64,p.snap.i64,i1 _ (by have:=p.span; omega),i1 _ (by have:=p.span; omega)⟩,fun n hn=>i1 _ (by have:=p.parts.2 n hn; omega),by have:=p.parts.1; omega,fun w hw=>⟨i1 _ (by have:=(p.writes.2 w hw).1; omega),by have:=(p.writes.2 w hw).2; unfold SmallB; omega⟩,by have:=p.writes.1; omega⟩
 ·obtain ⟨⟨q1,q2,q3⟩,q4⟩:=h.outs x hx
  exact ⟨q1.i64,q2.i64,q3.i64,by unfold SmallB; omega⟩
 ·obtain ⟨⟨q1,q2⟩,q3,q4⟩:=h.sess x hx
  exact ⟨q1.i64,q2.i64,q3,by unfold SmallB; omega⟩
theorem flat_bound {α:Type} (f:α→List Bt) (c:Nat):∀ l:List α,(∀ x∈l,(f x).length≤c)→((l.map f).flatten).length≤c*l.length
 | [],_=>by simp
 | x::l,h=>by
  have h1:=h x (List.mem_cons_self ..)
  have h2:=flat_bound f c l (fun y hy=>h y (List.mem_cons_of_mem _ hy))
  rw [List.map_cons,List.flatten_cons,List.length_append,List.length_cons,Nat.mul_succ]; omega
theorem encL'_bound {α:Type} (f:α→List Bt) (c:Nat) (l:List α) (h:∀ x∈l,(f x).length≤c):(encL' f l).length≤8+c*l.length:=by
 have:=flat_bound f c l h
 rw [encL'_length]; omega
theorem Good.enc_len {n:Nat} {s:Shd} (h:Good n s) (hn:n≤191):(encShd s).length≤1000000000000:=by
 have b1:=h.ok.blocks.len
 have l1:=h.ok.locks.few
 have d1:=h.dl; have d2:=h.pl; have d3:=h.kl; have d4:=h.ol; have d5:=h.xl
 have e1:=encL'_bound encBlk 20 s.blocks (fun x hx=>by have:=h.ok.blocks.four x hx; unfold encBlk; rw [List.length_append,be8_length,blob_length]; omega)
 have e2:=encL'_bound encKpt 28 s.kept (fun x hx=>by have:=h.ok.kept.1 x hx; unfold encKpt; rw [List.length_append,List.length_append,be8_length,be8_length,blob_length]; omega)
 have e3:=encL'_bound encLk 32 s.locks (fun x hx=>by unfold encLk; simp only [List.length_append,be8_length]; omega)
 have e4:=encL'_bound encPrp 1000 s.preps (fun x hx=>by
  have p:=h.prs x hx
  have p1:=p.parts.1
  have p2:=p.writes.1
  have q:=encL'_bound encWr 20 x.writes (fun w hw=>by have:=(p.writes.2 w hw).2; unfold encWr; rw [List.length_append,be8_length,blob_length]; omega)
  unfold encPrp
  simp only [List.length_append,be8_length,encInts_length]
  omega)
 have e5:=encL'_bound encOut 100000100 s.outs (fun x hx=>by have:=(h.outs x hx).2; unfold encOut; simp only [List.length_append,be8_length,blob_length]; omega)
 have e6:=encL'_bound encSes 100000100 s.sess (fun x hx=>by have:=(h.sess x hx).2.2; unfold encSes; simp only [List.length_append,be8_length,blob_length]; omega)
 unfold encShd
 simp only [List.length_append,be8_length,encInts_length]
 omega
end Sl
end Go.Proofs.YtpkealohodeifaaGreat
namespace Go.Proofs.YtpkealohodeifaaGreat
open Go Go.RowKit
namespace Sl
set_option maxHeartbeats 16000000
set_option maxRecDepth 4000
set_option synthInstance.maxHeartbeats 400000
set_option synthInstance.maxSize 100000
attribute [local irreducible] Hold HoldL HoldW
def SmallO (o:Opn):Prop:=o.parts.length≤1000000∧o.reads.length≤1000000∧o.writes.length≤1000000∧o.data.length≤1000000∧∀ w∈o.writes,w.data.length≤1000000
theorem copyOp_spec (w0:World) (X:Hp) (o:Opn) (e:List Value) (ho:Rep.rd w0 X o e) (hl:SmallO o) :
  Spec Tryz.prog w0 103 [.agg e.toArray] X (fun r h'=>∃ e' D,r=.agg e'.toArray∧Rep.rd w0 D o e'∧X+D=h'):=by
 obtain ⟨x1,y1,x2,y2,x3,y3,x4,y4,rfl,r1,r2,r3,r4⟩:=ho
 obtain ⟨l1,l2,l3,l4,l5⟩:=hl
 refine zN Tryz.func103 G Tryz.ntmps103 Tryz.results103 G fun fr=>?_
 repeat (first|refine zF ?_|refine zB ?_|refine zE ?_|refine L_box G (c:=[_,_,_,_,_,_,_,_,_,_,_,_,_,_,_,_,_]) G G G (fun _=>?_)|refine L_alloc (c:=[_,_,_,_,_,_,_,_,_,_,_,_,_,_,_,_,_]) G G G (fun _=>?_))
 rename_i b1 b2
 refine yC [2,5,8,10,12,14] [0,1,3,4,6,7,2,9,5,8,10,11,12,13,14] (by kernel_rfl) G (by kernel_rfl) (by kernel_rfl) ?_
 repeat (first|refine yE G G G G (yA G G G) ?_|refine W_load G G G G (yF G) (zG G (zS G)) ?_)
 refine W_call G G G G (zQ G G G) (cloneI_spec w0 X _ o.parts r1 (by omega)) (Kept.all _) ?_
 rintro _ _ ⟨h1,q1,rfl⟩
 obtain ⟨a5,c5,rfl⟩:=q1.shape
 refine ⟨(by repeat (first|exact trivial|exact zG G (zS G)|exact zL G G G|exact zX G (by assumption) G|exact zH G (by assumption) G|exact zH G (by assumption) (by assumption)|refine ⟨?_,?_⟩)),?_⟩
 repeat (refine yE G G G G (yA G G G) ?_)
 refine W_call G G G G (zQ G G G) (cloneI_spec w0 X _ o.reads r2 (by omega)) (Kept.all _) ?_
 rintro _ _ ⟨h2,q2,rfl⟩
 obtain ⟨a6,c6,rfl⟩:=q2.shape
 refine ⟨(by repeat (first|exact trivial|exact zG G (zS G)|exact zL G G G|exact zX G (by assumption) G|exact zH G (by assumption) G|exact zH G (by assumption) (by assumption)|refine ⟨?_,?_⟩)),?_⟩
 skip
 refine W_call G G G G (zQ G G G) (cloneB_spec w0 X _ o.data r4 (by omega)) (Kept.all _) ?_
 rintro _ _ ⟨h3,q3,rfl⟩
 obtain ⟨a8,c8,rfl⟩:=q3.shape
 refine ⟨(by repeat (first|exact trivial|exact zG G (zS G)|exact zL G G G|exact zX G (by assumption) G|exact zH G (by assumption) G|exact zH G (by assumption) (by assumption)|refine ⟨?_,?_⟩)),?_⟩
 skip
 refine W_eff (W':=?wk1) G G G G (ev_store G G G G G (c':=[_,_,_,_,_,_,_,_,_,_,_,_,_,_,_,_,_]) G) ?wkk1 ?wrest1
 case wkk1=>repeat (first|exact Kept.nil|refine Kept.drop (by kernel_rfl) ?_|refine Kept.keep ?_)
 rintro _ _ rfl
 refine ⟨(by repeat (first|exact trivial|exact zG G (zS G)|exact zL G G G|exact zX G (by assumption) G|exact zH G (by assumption) G|exact zH G (by assumption) (by assumption)|refine ⟨?_,?_⟩)),?_⟩
 repeat (refine yE G G G G (yA G G G) ?_)
 refine W_eff (W':=?wk2) G G G G (ev_store G G G G G (c':=[_,_,_,_,_,_,_,_,_,_,_,_,_,_,_,_,_]) G) ?wkk2 ?wrest2
 case wkk2=>repeat (first|exact Kept.nil|refine Kept.drop (by kernel_rfl) ?_|refine Kept.keep ?_)
 rintro _ _ rfl
 refine ⟨(by repeat (first|exact trivial|exact zG G (zS G)|exact zL G G G|exact zX G (by assumption) G|exact zH G (by assumption) G|exact zH G (by assumption) (by assumption)|refine ⟨?_,?_⟩)),?_⟩
 repeat (refine yE G G G G (yA G G G) ?_)
 refine W_eff (W':=?wk3) G G G G (ev_store G G G G G (c':=[_,_,_,_,_,_,_,_,_,_,_,_,_,_,_,_,_]) G) ?wkk3 ?wrest3
 case wkk3=>repeat (first|exact Kept.nil|refine Kept.drop (by kernel_rfl) ?_|refine Kept.keep ?_)
 rintro _ _ rfl
 refine ⟨(by repeat (first|exact trivial|exact zG G (zS G)|exact zL G G G|exact zX G (by assumption) G|exact zH G (by assumption) G|exact zH G (by assumption) (by assumption)|refine ⟨?_,?_⟩)),?_⟩
 repeat (refine yJ ?_)
 repeat (first|refine zF ?_|refine zR ?_|refine zB ?_|refine zE ?_|refine zK G G G ?_|refine zZ G G G G G ?_|refine L_ld G G G G G ?_|refine L_len G G G ?_)
 refine hold_count o.writes.length (fun k g L=>∃ (vo:Value) (E h R:Hp),g=[(1,.pointer (some ⟨b1,0,none⟩)),(2,.pointer (some ⟨b2,0,none⟩)),(3,vo),(19,.slice x3 o.writes.length y3),(20,.int .i64 o.writes.length),(21,.int .i64 k)]∧OwL w0 E (o.writes.take k) vo h ∧
   L=X+h1+h2+h3+E+h+opC b1 o (.slice a5 o.parts.length c5) (.slice a6 o.reads.length c6) (.slice x3 o.writes.length y3) (.slice a8 o.data.length c8)+pt b2 (.cells [.int .i64 0,.int .i64 0,.int .i64 0,.int .i64 0,.int .i64 0,.int .i64 0,.int .i64 0,.int .i64 0,.int .i64 0,.int .i64 0,.int .i64 0,.int .i64 0,.int .i64 0,.slice none 0 0,.slice none 0 0,.slice none 0 0,.slice none 0 0].toArray 49 (0,0))+fr+R) _
  ⟨_,0,0,_,rfl,OwL.nil _ _,by simp only [yB]; exact yK.out⟩ (by repeat (first|exact zT _|refine zO G ?_)) ?_
 rintro k g L hk ⟨vo,E,h,R,rfl,hov,rfl⟩
 repeat (first|refine zF ?_|refine zB ?_)
 refine yG G G (pv_lss G G) (fun n1=>?_) (fun n1=>?_)
 ·have hx:k<o.writes.length:=by omega
  obtain ⟨bw,ow,rfl,ew,⟨a3,c3,rfl,hdat⟩,hat⟩:=r3.at hx
  repeat (first|refine zF ?_|refine zR ?_|refine zB ?_|refine zE ?_|refine zP ?_|refine zJ G ?_|refine L_idx G G (by omega) G G ?_|refine L_atA G (by assumption) G G G G ?_|refine L_stA G (vs:=[_,_]) G G G G (c':=[_,_]) G G ?_|refine L_alloc (c:=[_,_]) G G G (fun _=>?_))
  refine yC [5,7,8] [0,1,2,3,4,5,6,7,8,9] (by kernel_rfl) G (by kernel_rfl) (by kernel_rfl) ?_
  repeat (first|refine yI G G G G G ?_|refine yE G G G G (yA G G G) ?_|refine W_load G G G G (yF G) (zG G (zS G)) ?_)
  refine W_call G G G G (zQ G G G) (cloneB_spec w0 X _ _ hdat (by have:=l5 _ (List.getElem_mem hx); omega)) (Kept.all _) ?_
  rintro vc _ ⟨hc,hcl,rfl⟩
  obtain ⟨a4,c4,rfl⟩:=hcl.shape
  refine ⟨(by repeat (first|exact trivial|exact zG G (zS G)|exact zL G G G|exact zX G (by assumption) G|exact zH G (by assumption) G|exact zH G (by assumption) (by assumption)|refine ⟨?_,?_⟩)),?_⟩
  repeat (refine yE G G G G (pv_build (vs:=[_,_]) (cells:=[_,_]) G G) ?_)
  refine W_eff G G G G (ev_buildSlice (vs:=[_]) (cells:=[_,_]) G G G G) (Kept.all _) ?_
  rintro _ _ ⟨b5,rfl,rfl⟩
  refine ⟨(by repeat (first|exact trivial|exact zG G (zS G)|exact zL G G G|exact zX G (by assumption) G|exact zH G (by assumption) G|exact zH G (by assumption) (by assumption)|refine ⟨?_,?_⟩)),?_⟩
  have hnew:Rep.rd w0 (E+hc) o.writes[k] [.int .i64 o.writes[k].block,.slice a4 o.writes[k].data.length c4]:=⟨a4,c4,rfl,hcl.plainB.rd (X:=0) (R:=E)⟩
  refine W_eff G G G G (ev_appendL (X:=E+hc) (ns:=[o.writes[k]]) (h:=h) G G (hov.mono G) (rd_one G) (All2.one hnew) G G G G G (by simp only [List.length_take,List.length_singleton]; omega)) (Kept.all _) ?_
  rintro vo' _ ⟨h',ho',rfl⟩
  refine ⟨(by repeat (first|exact trivial|exact zG G (zS G)|exact zL G G G|exact zX G (by assumption) G|exact zH G (by assumption) G|exact zH G (by assumption) (by assumption)|refine ⟨?_,?_⟩)),?_⟩
  repeat (first|refine yJ ?_|refine yI G G G G G ?_)
  repeat (first|refine zB ?_|refine zE ?_|refine zK G G G ?_|refine L_add G G (by omega) (by omega) G G ?_)
  rw [← List.take_succ_eq_append_getElem hx] at ho'
  exact ⟨hx,_,(by repeat (first|exact zT _|refine zO G ?_)),vo',E+hc,h',_,rfl,ho',yK.out⟩
 ·rw [List.take_of_length_le (by omega)] at hov
  obtain ⟨a9,c9,rfl⟩:=hov.shape
  repeat (first|refine zF ?_|refine yD ?_|refine zB ?_|refine zE ?_|refine zK G G G ?_|refine zZ G G G G G ?_|refine zM ?_|refine zI G ?_|refine L_st G G G (c':=[_,_,_,_,_,_,_,_,_,_,_,_,_,_,_,_,_]) G G G G ?_|refine L_ldA G (vs:=[_,_,_,_,_,_,_,_,_,_,_,_,_,_,_,_,_]) G G G G G ?_|refine L_stA G (vs:=[_,_,_,_,_,_,_,_,_,_,_,_,_,_,_,_,_]) G G G G (c':=[_,_,_,_,_,_,_,_,_,_,_,_,_,_,_,_,_]) G G ?_)
  exact ⟨[_],X+(h1+h2+h3+E+h),_,⟨⟨_,rfl,zL G G G⟩,trivial⟩,⟨cellsO o (.slice a5 o.parts.length c5) (.slice a6 o.reads.length c6) (.slice a9 o.writes.length c9) (.slice a8 o.data.length c8),h1+h2+h3+E+h,rfl,
   ⟨a5,c5,a6,c6,a9,c9,a8,c8,rfl,(q1.plainI (Y:=0)).rd (R:=h2+h3+E+h) (hf:=⟨by rw [hzero_add]; ac_rfl⟩),(q2.plainI (Y:=0)).rd (R:=h1+h3+E+h) (hf:=⟨by rw [hzero_add]; ac_rfl⟩),hov.rd (R:=h1+h2+h3) (hf:=⟨by ac_rfl⟩),(q3.plainB (Y:=0)).rd (R:=h1+h2+E+h) (hf:=⟨by rw [hzero_add]; ac_rfl⟩)⟩,rfl⟩,yK.out⟩
theorem copyOf_spec (w0:World) (X:Hp) (s:Shd) (e:List Value) (he:RdShd w0 X s e) (hin:ShdIn s) (hl:(encShd s).length≤1000000000000) :
  Spec Tryz.prog w0 99 [.agg e.toArray] X (fun r h'=>∃ b D h,r=.pointer (some ⟨b,0,none⟩)∧ShAt w0 D b s h∧X+(D+h)=h'):=by
 have hput:=put22_spec w0 X s e he hl
 obtain ⟨p1,q1,p2,q2,p3,q3,p4,q4,p5,q5,p6,q6,p7,q7,rfl,_,_,_,_,_,_,_⟩:=he
 refine zN Tryz.func99 G Tryz.ntmps99 Tryz.results99 G fun fr=>?_
 repeat (first|refine zF ?_|refine zB ?_|refine zE ?_|refine zK G G G ?_|refine L_ldA G (vs:=[_,_,_,_,_,_,_,_,_,_]) G G G G G ?_|refine L_box G (c:=[_,_,_,_,_,_,_,_,_,_]) G G G (fun _=>?_))
 refine zY G G (zQ G G G) hput ?_
 rintro vb _ ⟨hb,hob,rfl⟩
 have hget:=get22_spec w0 hb vb (encShd s) hob.rdh hl
 rw [getF_enc s hin] at hget
 obtain ⟨ab,cb,rfl⟩:=hob.shape
 skip
 refine zY G G (zQ G G G) hget ?_
 rintro _ _ ⟨e2,D,h,rfl,⟨a1,c1,a2,c2,a3,c3,a4,c4,a5,c5,a6,c6,a7,c7,h1,h2,h3,h4,h5,h6,h7,rfl,o1,o2,o3,o4,o5,o6,o7,rfl⟩,rfl⟩
 repeat (first|refine zF ?_|refine zB ?_|refine zE ?_|refine zK G G G ?_|refine zM ?_|refine L_ldA G (vs:=[_,_,_,_,_,_,_,_,_,_]) G G G G G ?_|refine L_build (vs:=[_]) (cells:=[_,_,_,_,_,_,_,_,_,_]) G G G G ?_|refine L_stA G (vs:=[_,_,_,_,_,_,_,_,_,_]) G G G G (c':=[_,_,_,_,_,_,_,_,_,_]) G G ?_|refine L_box G (c:=[_,_,_,_,_,_,_,_,_,_]) G G G (fun _=>?_)|refine L_alloc (c:=[_,_,_,_,_,_,_,_,_,_]) G G G (fun _=>?_))
 rename_i bn
 exact ⟨[_],X+(D+(stC bn (cellsS s (.slice a1 s.blocks.length c1) (.slice a2 s.kept.length c2) (.slice a3 s.locks.length c3) (.slice a4 s.preps.length c4) (.slice a5 s.dead.length c5) (.slice a6 s.outs.length c6) (.slice a7 s.sess.length c7))+h1+h2+h3+h4+h5+h6+h7)),_,⟨rfl,trivial⟩,
  ⟨bn,D,_,rfl,⟨a1,c1,a2,c2,a3,c3,a4,c4,a5,c5,a6,c6,a7,c7,h1,h2,h3,h4,h5,h6,h7,o1,o2,o3.plainL,o4,o5.plainI,o6,o7,rfl⟩,rfl⟩,yK.out⟩
end Sl
end Go.Proofs.YtpkealohodeifaaGreat
namespace Go.Proofs.YtpkealohodeifaaGreat
open Go Go.RowKit
namespace Sl
section
variable {P:Program} {g:Env}
theorem run_eqf {t:TypeId} {ps rs:Array TypeId} {vr:Bool} (h:P.underlying t=some (.func ps rs vr)) (d:Nat) (w:World) {v:Value} {r:Bool} (hv:(v=.nilFunc∧r=true)∨((∃ a b c,v=.func a b c)∧r=false)):(Op.equalIn (d+1) t v .nilFunc).run P w=.ok r w:=by
 rcases hv with ⟨rfl,rfl⟩|⟨⟨a',b',c',rfl⟩,rfl⟩<;>simp [Op.equalIn,run_underlying h]
theorem run_eqlf {t:TypeId} {ps rs:Array TypeId} {vr:Bool} (h:P.underlying t=some (.func ps rs vr)) (w:World) {v:Value} {r:Bool} (hv:(v=.nilFunc∧r=true)∨((∃ a b c,v=.func a b c)∧r=false)):(binOp .eql t v .nilFunc).run P w=.ok (.bool r) w:=by
 have h1:(Op.equal t v .nilFunc).run P w=.ok r w:=run_eqf h 9999 w hv
 rcases hv with ⟨rfl,rfl⟩|⟨⟨a',b',c',rfl⟩,rfl⟩<;>(simp only [binOp]; simp [h1])
theorem pv_eql_nilfunc {t ty:TypeId} {ps rs:Array TypeId} {vr:Bool} [hu:Und P t (.func ps rs vr)] {x y:Operand} {v:Value} {r:Bool} (hx:ev g x=some v) (hy:ev g y=some .nilFunc)
  (hv:(v=.nilFunc∧r=true)∨((∃ a b c,v=.func a b c)∧r=false)):PV P g (.binOp .eql t x y ty) (.bool r):=by
 intro o a w m ho ha; unfold execOp
 have h2:=run_eqlf (w:=w) hu.out hv
 have h3:(eqGuard .eql t x y v .nilFunc).run P w=.ok () w:=by
  rcases hv with ⟨rfl,rfl⟩|⟨⟨a',b',c',rfl⟩,rfl⟩<;>(unfold eqGuard; split<;>simp_all)
 simp only [ho,ha.ev hx,ha.ev hy,Sem.run_bind,h3,Result.andThen_ok,h2,Sem.run_pure]
end
end Sl
end Go.Proofs.YtpkealohodeifaaGreat
namespace Go.Proofs.YtpkealohodeifaaGreat
open Go Go.RowKit
namespace Sl
set_option maxHeartbeats 16000000
set_option maxRecDepth 4000
set_option synthInstance.maxHeartbeats 400000
set_option synthInstance.maxSize 100000
attribute [local irreducible] Hold HoldL HoldW
theorem doV_nil {b:Nat} {k:Int} (h:¬ doesK k):doV b k=.nilFunc:=by
 unfold doesK at h
 unfold doV
 rw [if_neg (by omega),if_neg (by omega),if_neg (by omega),if_neg (by omega),if_neg (by omega),if_neg (by omega)]
theorem step_fun (b:Nat) (k:Int) (h:doesK k):∃ f,doV b k=.func (.func f) #[.pointer (some ⟨b,0,none⟩)] #[]∧Nonempty (Fun Tryz.prog f)∧True:=by
 unfold doesK at h
 unfold doV
 by_cases k1:k=1
 ·rw [if_pos k1]; exact ⟨_,rfl,⟨inferInstance⟩,trivial⟩
 rw [if_neg k1]
 by_cases k2:k=2
 ·rw [if_pos k2]; exact ⟨_,rfl,⟨inferInstance⟩,trivial⟩
 rw [if_neg k2]
 by_cases k3:k=3
 ·rw [if_pos k3]; exact ⟨_,rfl,⟨inferInstance⟩,trivial⟩
 rw [if_neg k3]
 by_cases k5:k=5
 ·rw [if_pos k5]; exact ⟨_,rfl,⟨inferInstance⟩,trivial⟩
 rw [if_neg k5]
 by_cases k6:k=6
 ·rw [if_pos k6]; exact ⟨_,rfl,⟨inferInstance⟩,trivial⟩
 rw [if_neg k6,if_pos (show k=7 by omega)]
 exact ⟨_,rfl,⟨inferInstance⟩,trivial⟩
theorem step_spec (w0:World) (X:Hp) (b:Nat) (s:Shd) (h:Hp) (o:Opn) (e:List Value) (n:Nat) (hs:ShAt w0 X b s h) (ho:Rep.rd w0 X o e) (hg:Good n s) (hn:n≤190) (hok:OpOk o) (hk:doesK o.kind) :
  ∃ f,doV b o.kind=.func (.func f) #[.pointer (some ⟨b,0,none⟩)] #[]∧Nonempty (Fun Tryz.prog f)∧Spec Tryz.prog w0 f [.pointer (some ⟨b,0,none⟩),.agg e.toArray] (X+h) (PostS w0 X b (stepF s o)):=by
 have hz:=hg.sized hn
 unfold doesK at hk
 unfold doV stepF
 by_cases k1:o.kind=1
 ·rw [if_pos k1,if_pos k1]
  exact ⟨_,rfl,⟨inferInstance⟩,read22_spec w0 X b s h o e hs ⟨X,ho⟩ hz hg.ok⟩
 rw [if_neg k1,if_neg k1]
 by_cases k2:o.kind=2
 ·rw [if_pos k2,if_pos k2]
  have hsp:0≤o.lo∧o.lo≤o.hi∧o.hi≤64:=by
   obtain ⟨s1,s2⟩:=hok.span
   by_cases hsn:o.snap=0
   ·have:=s1 k2 hsn; omega
   ·have:=s2 (.inl ⟨k2,hsn⟩); omega
  have hrg:=hg.rng
  exact ⟨_,rfl,⟨inferInstance⟩,prepare22_spec w0 X b s h o e hs ho hz hg.ok hsp (by omega) (by have:=hok.reads.1; omega) (by have:=hok.writes.1; omega)⟩
 rw [if_neg k2,if_neg k2]
 by_cases k3:o.kind=3
 ·rw [if_pos k3,if_pos k3]
  exact ⟨_,rfl,⟨inferInstance⟩,decide22_spec w0 X b s h o e hs ho hz hg.ok (fun p hp=>⟨by have:=(hg.prs p hp).writes.1; omega,fun w hw=>by have:=((hg.prs p hp).writes.2 w hw).2; omega⟩)⟩
 rw [if_neg k3,if_neg k3]
 by_cases k5:o.kind=5
 ·rw [if_pos k5,if_pos k5]
  exact ⟨_,rfl,⟨inferInstance⟩,freeze22_spec w0 X b s h o e hs ⟨X,ho⟩ hz hg.ok (fun u hu=>by have:=(hg.outs u hu).2; omega)⟩
 rw [if_neg k5,if_neg k5]
 by_cases k6:o.kind=6
 ·rw [if_pos k6,if_pos k6]
  have hsp:=hok.span.2 (.inr (.inr (.inl k6)))
  exact ⟨_,rfl,⟨inferInstance⟩,install22_spec w0 X b s h o e hs ho hz hg.ok (by have:=hok.data; omega) (fun l k hp hc=>part_apart hg hsp (part_some hp).1 hc)⟩
 rw [if_neg k6,if_neg k6,if_pos (show o.kind=7 by omega)]
 exact ⟨_,rfl,⟨inferInstance⟩,drop22_spec w0 X b s h o e hs ⟨X,ho⟩ hz⟩
def ApplyP (w0:World) (X:Hp) (a:Shd × Res) (r:Value) (h':Hp):Prop:=∃ (e1 e2:List Value) (D h hr:Hp),r=.tuple #[.agg e1.toArray,.agg e2.toArray]∧OwShd w0 D a.1 e1 h∧OwR w0 a.2 (.agg e2.toArray) hr∧X+(D+h+hr)=h'
theorem apply22_spec (w0:World) (X:Hp) (s:Shd) (es:List Value) (o:Opn) (eo:List Value) (n:Nat) (hs:RdShd w0 X s es) (ho:Rep.rd w0 X o eo) (hg:Good n s) (hn:n≤190) (hni:NumsIn o) (hso:SmallO o) :
  Spec Tryz.prog w0 23 [.agg es.toArray,.agg eo.toArray] X (ApplyP w0 X (applyF s o)):=by
 have hcopy:=copyOf_spec w0 X s es hs (hg.shdIn (by omega)) (hg.enc_len (by omega))
 have hcop:=copyOp_spec w0 X o eo ho hso
 have hz:=hg.sized hn
 have hz5:=hz.sess
 obtain ⟨l1,l2,l3,l4,l5⟩:=id hso
 have hchk:=check21_spec w0 X o eo ho hni ⟨by omega,by omega,by omega⟩
 obtain ⟨p1,q1,p2,q2,p3,q3,p4,q4,p5,q5,p6,q6,p7,q7,rfl,_,_,_,_,_,_,_⟩:=id hs
 obtain ⟨x1,y1,x2,y2,x3,y3,x4,y4,rfl,_,_,_,_⟩:=id ho
 refine zN Tryz.func23 G Tryz.ntmps23 Tryz.results23 G fun fr=>?_
 repeat (first|refine zF ?_|refine zB ?_|refine zE ?_|refine L_ldA G (vs:=[_,_,_,_,_,_,_,_,_,_]) G G G G G ?_|refine L_box G (c:=[_,_,_,_,_,_,_,_,_,_]) G G G (fun _=>?_)|refine L_box G (c:=[_,_,_,_,_,_,_,_,_,_,_,_,_,_,_,_,_]) G G G (fun _=>?_)|refine L_alloc (c:=[_,_]) G G G (fun _=>?_)|refine L_alloc (c:=[_,_,_,_,_,_,_,_,_,_]) G G G (fun _=>?_))
 rename_i b2 b3 b4 b5
 refine zY G G (zQ G G G) hcopy ?_
 rintro _ _ ⟨b,D,h,rfl,hat,rfl⟩
 repeat (first|refine zF ?_|refine zB ?_|refine zE ?_|refine zK G G G ?_|refine L_ldA G (vs:=[_,_,_,_,_,_,_,_,_,_,_,_,_,_,_,_,_]) G G G G G ?_)
 refine zY G G (zQ G G G) hchk ?_
 rintro _ _ ⟨rfl,rfl⟩
 obtain ⟨a1,c1,a2,c2,a3,c3,a4,c4,a5,c5,a6,c6,a7,c7,h1,h2,h3,h4,h5,h6,h7,o1,o2,o3,o4,o5,o6,o7,rfl⟩:=id hat
 repeat (first|refine zF ?_|refine zB ?_|refine zE ?_|refine zK G G G ?_)
 refine yG G G (pv_neq G G) (fun n1=>?_) (fun n1=>?_)
 ·repeat (first|refine zF ?_|refine zE ?_|refine zJ G ?_)
  refine yC [5,6,7] [0,1,2,3,4,5,6,7] (by kernel_rfl) G (by kernel_rfl) (by kernel_rfl) ?_
  repeat (first|refine yI G G G G G ?_|refine yE G G G G (yA G G G) ?_|refine W_load G G G G (yF G) (zL (vs:=[_,_,_,_,_,_,_,_,_,_]) G G G) ?_)
  refine W_call G G G G (zQ G G G) (code22_spec w0 (checkF o)) (Kept.all _) ?_
  rintro _ _ ⟨rfl,rfl⟩
  refine ⟨(by repeat (first|exact trivial|exact zG G (zS G)|exact zL G G G|exact zX G (by assumption) G|exact zH G (by assumption) G|exact zH G (by assumption) (by assumption)|refine ⟨?_,?_⟩)),?_⟩
  skip
  refine W_eff G G G G (ev_storeA (vs:=[_,_,_,_,_,_,_,_,_,_]) G G G G (c:=[_,_,_,_,_,_,_,_,_,_]) (Nat.le_of_ble_eq_true G) (c':=[_,_,_,_,_,_,_,_,_,_]) G) (Kept.all _) ?_
  rintro _ _ rfl
  refine ⟨(by repeat (first|exact trivial|exact zG G (zS G)|exact zL G G G|exact zX G (by assumption) G|exact zH G (by assumption) G|exact zH G (by assumption) (by assumption)|refine ⟨?_,?_⟩)),?_⟩
  skip
  refine W_eff G G G G (ev_storeA (vs:=[_,_]) G G G G (c:=[_,_]) (Nat.le_of_ble_eq_true G) (c':=[_,_]) G) (Kept.all _) ?_
  rintro _ _ rfl
  refine ⟨(by repeat (first|exact trivial|exact zG G (zS G)|exact zL G G G|exact zX G (by assumption) G|exact zH G (by assumption) G|exact zH G (by assumption) (by assumption)|refine ⟨?_,?_⟩)),?_⟩
  repeat (refine yJ ?_)
  repeat (refine zM ?_)
  rw [show applyF s o=(s,⟨(checkF o),[]⟩) by unfold applyF; rw [if_pos n1]]
  exact ⟨[_,_],X+(D+(h1+h2+h3+h4+h5+h6+h7)),_,⟨⟨_,rfl,zL G G G⟩,⟨_,rfl,zL G G G⟩,trivial⟩,⟨cellsS s (.slice a1 s.blocks.length c1) (.slice a2 s.kept.length c2) (.slice a3 s.locks.length c3) (.slice a4 s.preps.length c4) (.slice a5 s.dead.length c5) (.slice a6 s.outs.length c6) (.slice a7 s.sess.length c7),[.int .i64 ((checkF o)),.slice none 0 0],D,_,0,rfl,⟨a1,c1,a2,c2,a3,c3,a4,c4,a5,c5,a6,c6,a7,c7,h1,h2,h3,h4,h5,h6,h7,rfl,o1,o2,o3.plainL,o4,o5.plainI,o6,o7,rfl⟩,OwR.code _ _,by rw [yB]⟩,yK.out⟩
 ·have n1':=Classical.byContradiction n1
  have hok:=check_ok n1'
  repeat (first|refine zF ?_|refine zB ?_|refine zE ?_|refine zK G G G ?_|refine zZ G G G G G ?_|refine L_ld G G G G G ?_|refine zP ?_|refine zI G ?_)
  refine zY G G (zQ G G G) (doing_spec w0 b o.kind) ?_
  rintro _ _ ⟨rfl,rfl⟩
  by_cases n2:doesK o.kind
  rotate_left
  ·rw [doV_nil n2]
   repeat (first|refine zF ?_|refine zB ?_|refine zE ?_|refine zK G G G ?_)
   refine yH G G (pv_eql_nilfunc (r:=true) G G (.inl ⟨rfl,rfl⟩)) ?_
   repeat (first|refine zF ?_|refine zE ?_|refine zJ G ?_)
   refine yC [4,5,6] [0,1,2,3,4,5,6] (by kernel_rfl) G (by kernel_rfl) (by kernel_rfl) ?_
   repeat (first|refine yI G G G G G ?_|refine yE G G G G (yA G G G) ?_|refine W_load G G G G (yF G) (zL (vs:=[_,_,_,_,_,_,_,_,_,_]) G G G) ?_)
   refine W_call G G G G (zQ G G G) (code22_spec w0 13) (Kept.all _) ?_
   rintro _ _ ⟨rfl,rfl⟩
   refine ⟨(by repeat (first|exact trivial|exact zG G (zS G)|exact zL G G G|exact zX G (by assumption) G|exact zH G (by assumption) G|exact zH G (by assumption) (by assumption)|refine ⟨?_,?_⟩)),?_⟩
   skip
   refine W_eff G G G G (ev_storeA (vs:=[_,_,_,_,_,_,_,_,_,_]) G G G G (c:=[_,_,_,_,_,_,_,_,_,_]) (Nat.le_of_ble_eq_true G) (c':=[_,_,_,_,_,_,_,_,_,_]) G) (Kept.all _) ?_
   rintro _ _ rfl
   refine ⟨(by repeat (first|exact trivial|exact zG G (zS G)|exact zL G G G|exact zX G (by assumption) G|exact zH G (by assumption) G|exact zH G (by assumption) (by assumption)|refine ⟨?_,?_⟩)),?_⟩
   skip
   refine W_eff G G G G (ev_storeA (vs:=[_,_]) G G G G (c:=[_,_]) (Nat.le_of_ble_eq_true G) (c':=[_,_]) G) (Kept.all _) ?_
   rintro _ _ rfl
   refine ⟨(by repeat (first|exact trivial|exact zG G (zS G)|exact zL G G G|exact zX G (by assumption) G|exact zH G (by assumption) G|exact zH G (by assumption) (by assumption)|refine ⟨?_,?_⟩)),?_⟩
   repeat (refine yJ ?_)
   repeat (refine zM ?_)
   rw [show applyF s o=(s,⟨13,[]⟩) by unfold applyF; rw [if_neg n1,if_pos n2]]
   exact ⟨[_,_],X+(D+(h1+h2+h3+h4+h5+h6+h7)),_,⟨⟨_,rfl,zL G G G⟩,⟨_,rfl,zL G G G⟩,trivial⟩,⟨cellsS s (.slice a1 s.blocks.length c1) (.slice a2 s.kept.length c2) (.slice a3 s.locks.length c3) (.slice a4 s.preps.length c4) (.slice a5 s.dead.length c5) (.slice a6 s.outs.length c6) (.slice a7 s.sess.length c7),[.int .i64 (13),.slice none 0 0],D,_,0,rfl,⟨a1,c1,a2,c2,a3,c3,a4,c4,a5,c5,a6,c6,a7,c7,h1,h2,h3,h4,h5,h6,h7,rfl,o1,o2,o3.plainL,o4,o5.plainI,o6,o7,rfl⟩,OwR.code _ _,by rw [yB]⟩,yK.out⟩
  ·obtain ⟨f0,hdo0,hfun0,-⟩:=step_fun b o.kind n2
   have e0:applyF s o=if (askF s.sess o.client o.seq).2=7 then (s,(askF s.sess o.client o.seq).1) else if (askF s.sess o.client o.seq).2=15 then (s,⟨15,[]⟩) else (noteS (stepF s o).1 o (stepF s o).2,(stepF s o).2):=by unfold applyF; rw [if_neg n1,if_neg (not_not_intro n2)]
   rw [hdo0]
   repeat (first|refine zF ?_|refine zB ?_|refine zE ?_|refine zK G G G ?_)
   refine yH G G (pv_eql_nilfunc (r:=false) G G (.inr ⟨⟨_,_,_,rfl⟩,rfl⟩)) ?_
   repeat (first|refine zF ?_|refine zE ?_|refine zP ?_|refine zI G ?_)
   refine hold_drawV [9,13,14] [0,1,2,3,4,5,6,7,8,9,10,11,12,13,14,15] 13 9 [.int .i64 0,.slice none 0 0] 51 (by kernel_rfl) G (by kernel_rfl) (by kernel_rfl) (by kernel_rfl) ?_
   repeat (first|refine V_of G G (fun _=>rfl) G G G G ?_|refine V_pure G (yA G G G) (fun _=>yA G G G) G G G G ?_|refine V_load G G (fun _=>rfl) (zG G (zS G)) G G G G ?_)
   refine V_call G G G G G (zQ G G G) (fun _=>zQ G G G) (ask18_spec w0 (D+h7) (.slice a7 s.sess.length c7) s.sess o.client o.seq o7.rd0 (by omega) (fun x hx=>by have:=(hg.sess x hx).2.2; omega)) (Kept.all _) G G G G ?_
   rintro _ _ ⟨a9,c9,h9,rfl,o9,rfl⟩
   refine ⟨(by repeat (first|exact trivial|exact zG G (zS G)|exact zL G G G|exact zX G (by assumption) G|exact zH G (by assumption) G|exact zH G (by assumption) (by assumption)|refine ⟨?_,?_⟩)),?_⟩
   repeat (refine V_of G G (fun _=>rfl) G G G G ?_)
   refine V_now G G G G (fun b9=>?_)
   refine W_eff G G G G (ev_storeA (vs:=[_,_]) G G G G (c:=[_,_]) (Nat.le_of_ble_eq_true G) (c':=[_,_]) G) (Kept.all _) ?_
   rintro _ _ rfl
   refine ⟨(by repeat (first|exact trivial|exact zG G (zS G)|exact zL G G G|exact zX G (by assumption) G|exact zH G (by assumption) G|exact zH G (by assumption) (by assumption)|refine ⟨?_,?_⟩)),?_⟩
   repeat (first|refine yJ ?_|refine yI G G G G G ?_)
   generalize askF s.sess o.client o.seq=ask at *
   obtain ⟨ar,ae⟩:=ask
   simp only at *
   repeat (first|refine zF ?_|refine zR ?_|refine zB ?_|refine zE ?_|refine zK G G G ?_)
   refine yG G G (pv_eql G G) (fun n3=>?_) (fun n3=>?_)
   ·repeat (first|refine zF ?_|refine zE ?_|refine zK G G G ?_|refine zJ G ?_)
    refine yC [5,6] [0,1,2,3,4,5,6] (by kernel_rfl) G (by kernel_rfl) (by kernel_rfl) ?_
    repeat (first|refine yI G G G G G ?_|refine yE G G G G (yA G G G) ?_|refine W_load G G G G (yF G) (zL (vs:=[_,_]) G G G) ?_|refine W_load G G G G (yF G) (zL (vs:=[_,_,_,_,_,_,_,_,_,_]) G G G) ?_)
    refine W_eff G G G G (ev_storeA (vs:=[_,_,_,_,_,_,_,_,_,_]) G G G G (c:=[_,_,_,_,_,_,_,_,_,_]) (Nat.le_of_ble_eq_true G) (c':=[_,_,_,_,_,_,_,_,_,_]) G) (Kept.all _) ?_
    rintro _ _ rfl
    refine ⟨(by repeat (first|exact trivial|exact zG G (zS G)|exact zL G G G|exact zX G (by assumption) G|exact zH G (by assumption) G|exact zH G (by assumption) (by assumption)|refine ⟨?_,?_⟩)),?_⟩
    skip
    refine W_eff G G G G (ev_storeA (vs:=[_,_]) G G G G (c:=[_,_]) (Nat.le_of_ble_eq_true G) (c':=[_,_]) G) (Kept.all _) ?_
    rintro _ _ rfl
    refine ⟨(by repeat (first|exact trivial|exact zG G (zS G)|exact zL G G G|exact zX G (by assumption) G|exact zH G (by assumption) G|exact zH G (by assumption) (by assumption)|refine ⟨?_,?_⟩)),?_⟩
    repeat (refine yJ ?_)
    repeat (refine zM ?_)
    rw [e0,if_pos n3]
    exact ⟨[_,_],X+(D+(h1+h2+h3+h4+h5+h6+h7)+h9),_,⟨⟨_,rfl,zL G G G⟩,⟨_,rfl,zL G G G⟩,trivial⟩,⟨cellsS s (.slice a1 s.blocks.length c1) (.slice a2 s.kept.length c2) (.slice a3 s.locks.length c3) (.slice a4 s.preps.length c4) (.slice a5 s.dead.length c5) (.slice a6 s.outs.length c6) (.slice a7 s.sess.length c7),[.int .i64 ar.code,.slice a9 ar.data.length c9],D,_,h9,rfl,⟨a1,c1,a2,c2,a3,c3,a4,c4,a5,c5,a6,c6,a7,c7,h1,h2,h3,h4,h5,h6,h7,rfl,o1,o2,o3.plainL,o4,o5.plainI,o6,o7,rfl⟩,⟨a9,c9,rfl,o9⟩,rfl⟩,yK.out⟩
   ·repeat (first|refine zF ?_|refine zB ?_|refine zE ?_|refine zK G G G ?_|refine zI G ?_)
    refine yG G G (pv_eql G G) (fun n4=>?_) (fun n4=>?_)
    ·subst n4
     repeat (first|refine zF ?_|refine zE ?_|refine zK G G G ?_|refine zJ G ?_)
     refine yC [5,6,7] [0,1,2,3,4,5,6,7] (by kernel_rfl) G (by kernel_rfl) (by kernel_rfl) ?_
     repeat (first|refine yI G G G G G ?_|refine yE G G G G (yA G G G) ?_|refine W_load G G G G (yF G) (zL (vs:=[_,_,_,_,_,_,_,_,_,_]) G G G) ?_)
     refine W_call G G G G (zQ G G G) (code22_spec w0 15) (Kept.all _) ?_
     rintro _ _ ⟨rfl,rfl⟩
     refine ⟨(by repeat (first|exact trivial|exact zG G (zS G)|exact zL G G G|exact zX G (by assumption) G|exact zH G (by assumption) G|exact zH G (by assumption) (by assumption)|refine ⟨?_,?_⟩)),?_⟩
     skip
     refine W_eff G G G G (ev_storeA (vs:=[_,_,_,_,_,_,_,_,_,_]) G G G G (c:=[_,_,_,_,_,_,_,_,_,_]) (Nat.le_of_ble_eq_true G) (c':=[_,_,_,_,_,_,_,_,_,_]) G) (Kept.all _) ?_
     rintro _ _ rfl
     refine ⟨(by repeat (first|exact trivial|exact zG G (zS G)|exact zL G G G|exact zX G (by assumption) G|exact zH G (by assumption) G|exact zH G (by assumption) (by assumption)|refine ⟨?_,?_⟩)),?_⟩
     skip
     refine W_eff G G G G (ev_storeA (vs:=[_,_]) G G G G (c:=[_,_]) (Nat.le_of_ble_eq_true G) (c':=[_,_]) G) (Kept.all _) ?_
     rintro _ _ rfl
     refine ⟨(by repeat (first|exact trivial|exact zG G (zS G)|exact zL G G G|exact zX G (by assumption) G|exact zH G (by assumption) G|exact zH G (by assumption) (by assumption)|refine ⟨?_,?_⟩)),?_⟩
     repeat (refine yJ ?_)
     repeat (refine zM ?_)
     rw [show applyF s o=(s,⟨15,[]⟩) by rw [e0,if_neg n3,if_pos G]]
     exact ⟨[_,_],X+(D+(h1+h2+h3+h4+h5+h6+h7)),_,⟨⟨_,rfl,zL G G G⟩,⟨_,rfl,zL G G G⟩,trivial⟩,⟨cellsS s (.slice a1 s.blocks.length c1) (.slice a2 s.kept.length c2) (.slice a3 s.locks.length c3) (.slice a4 s.preps.length c4) (.slice a5 s.dead.length c5) (.slice a6 s.outs.length c6) (.slice a7 s.sess.length c7),[.int .i64 (15),.slice none 0 0],D,_,0,rfl,⟨a1,c1,a2,c2,a3,c3,a4,c4,a5,c5,a6,c6,a7,c7,h1,h2,h3,h4,h5,h6,h7,rfl,o1,o2,o3.plainL,o4,o5.plainI,o6,o7,rfl⟩,OwR.code _ _,by rw [yB]⟩,yK.out⟩
    ·rw [if_neg n3,if_neg n4] at e0
     repeat (first|refine zF ?_|refine zB ?_|refine zE ?_|refine zK G G G ?_|refine zP ?_|refine zI G ?_|refine L_ldA G (vs:=[_,_,_,_,_,_,_,_,_,_,_,_,_,_,_,_,_]) G G G G G ?_)
     refine zY G G (zQ G G G) hcop ?_
     rintro _ _ ⟨e',D2,rfl,ho',rfl⟩
     have ho2:Rep.rd w0 (D+D2) o e':=Rep.mono (hadd_comm _ _) ho'
     obtain ⟨f,hdo,⟨hfun⟩,hsp⟩:=step_spec w0 (D+D2) b s _ o e' n (hat.mono rfl) ho2 hg hn hok n2
     obtain rfl:f0=f:=by rw [hdo0] at hdo; simpa using hdo
     obtain ⟨gq,hq⟩:=stepF_good hg hn hok
     have hdo22:=do22_spec w0 (D+D2) b s _ o e' f0 (stepF s o) ho2 hsp (by rw [stepF_sess]; omega) (fun x hx=>by have:=(gq.sess x hx).2.2; omega) (by have:=hq.2; omega)
     repeat (refine zK G G G ?_)
     refine zY G G (zQ G G G) hdo22 ?_
     rintro _ _ ⟨E,h',hr,⟨a8,c8,rfl,o8⟩,hs2,rfl⟩
     rw [e0]
     generalize noteS (stepF s o).1 o (stepF s o).2=s2 at *
     obtain ⟨d1,i1,d2,i2,d3,i3,d4,i4,d5,i5,d6,i6,d7,i7,k1,k2,k3,k4,k5,k6,k7,u1,u2,u3,u4,u5,u6,u7,rfl⟩:=id hs2
     repeat (first|refine zF ?_|refine zE ?_|refine L_stA G (vs:=[_,_]) G G G G (c':=[_,_]) G G ?_|refine L_alloc (c:=[_,_]) G G G (fun _=>?_))
     refine yC [5,6] [0,1,2,3,4,5,6] (by kernel_rfl) G (by kernel_rfl) (by kernel_rfl) ?_
     repeat (first|refine yI G G G G G ?_|refine yE G G G G (yA G G G) ?_|refine W_load G G G G (yF G) (zL (vs:=[_,_]) G G G) ?_|refine W_load G G G G (yF G) (zL (vs:=[_,_,_,_,_,_,_,_,_,_]) G G G) ?_)
     refine W_eff G G G G (ev_storeA (vs:=[_,_,_,_,_,_,_,_,_,_]) G G G G (c:=[_,_,_,_,_,_,_,_,_,_]) (Nat.le_of_ble_eq_true G) (c':=[_,_,_,_,_,_,_,_,_,_]) G) (Kept.all _) ?_
     rintro _ _ rfl
     refine ⟨(by repeat (first|exact trivial|exact zG G (zS G)|exact zL G G G|exact zX G (by assumption) G|exact zH G (by assumption) G|exact zH G (by assumption) (by assumption)|refine ⟨?_,?_⟩)),?_⟩
     skip
     refine W_eff G G G G (ev_storeA (vs:=[_,_]) G G G G (c:=[_,_]) (Nat.le_of_ble_eq_true G) (c':=[_,_]) G) (Kept.all _) ?_
     rintro _ _ rfl
     refine ⟨(by repeat (first|exact trivial|exact zG G (zS G)|exact zL G G G|exact zX G (by assumption) G|exact zH G (by assumption) G|exact zH G (by assumption) (by assumption)|refine ⟨?_,?_⟩)),?_⟩
     repeat (refine yJ ?_)
     repeat (refine zM ?_)
     exact ⟨[_,_],X+(D+D2+E+(k1+k2+k3+k4+k5+k6+k7)+hr),_,⟨⟨_,rfl,zL G G G⟩,⟨_,rfl,zL G G G⟩,trivial⟩,⟨cellsS s2 (.slice d1 s2.blocks.length i1) (.slice d2 s2.kept.length i2) (.slice d3 s2.locks.length i3) (.slice d4 s2.preps.length i4) (.slice d5 s2.dead.length i5) (.slice d6 s2.outs.length i6) (.slice d7 s2.sess.length i7),[.int .i64 (stepF s o).2.code,.slice a8 (stepF s o).2.data.length c8],D+D2+E,_,hr,rfl,
      ⟨d1,i1,d2,i2,d3,i3,d4,i4,d5,i5,d6,i6,d7,i7,k1,k2,k3,k4,k5,k6,k7,rfl,u1,u2,u3.plainL,u4,u5.plainI,u6,u7,rfl⟩,⟨a8,c8,rfl,o8⟩,rfl⟩,yK.out⟩
end Sl
end Go.Proofs.YtpkealohodeifaaGreat
namespace Go.Proofs.YtpkealohodeifaaGreat
open Go Go.RowKit
namespace Sl
theorem PV.sub {P:Program} {g g':Env} {op:Op} {v:Value} (h:PV P g op v) (hs:Sub g' g):PV P g' op v:=fun o a w n ho ha=>h o a w n ho (ha.sub hs)
theorem LV.sub {g g':Env} {op:Op} {t:TypeId} {ad:Addr} (h:LV g op t ad) (hs:Sub g' g):LV g' op t ad:=fun o a n ho ha=>h o a n ho (ha.sub hs)
theorem CV.sub {P:Program} {g g':Env} {op:Op} {k:FuncId} {args:List Value} (h:CV P g op k args) (hs:Sub g' g):CV P g' op k args:=fun o a w n ho ha=>h o a w n ho (ha.sub hs)
theorem sub_new {g:Env} {d:Nat} {u:Value} (h:look g d=none):Sub ((d,u)::g) g:=by
 intro x y hx
 simp only [look]
 by_cases h1:d=x
 ·subst h1; rw [h] at hx; cases hx
 ·rw [if_neg h1]; exact hx
theorem sub_cons' {g g':Env} (d:Nat) (u:Value) (h:Sub g g'):Sub ((d,u)::g) ((d,u)::g'):=by
 intro x y hx
 simp only [look] at hx ⊢
 by_cases h1:d=x
 ·subst h1; simpa using hx
 ·rw [if_neg h1] at hx ⊢; exact h x y hx
def okV2 (ops:Array Oper) (eff:List Nat) (j1 j2:Nat):Array Bool→List Nat→Bool
 | listed,[]=>(Region.ready .any ops listed).all (fun k=>k==j1||k==j2)&&!(Region.ready .any ops listed).isEmpty
 | listed,i::s=>(if eff.contains i then (Region.ready .any ops listed).all (fun k=>k==i||(k==j1||k==j2))&&(Region.ready .any ops listed).contains i else (Region.ready .any ops listed).contains i&&Region.free .any ops listed i)&&okV2 ops eff j1 j2 (listed.setIfInBounds i true) s
section
variable {P:Program} {n:Nat} {w0:World} {Q:Post} {g:Env} {L:Hp} {ops:Array Oper} {eff:List Nat} {W:Watched} {listed:Array Bool} {s:List Nat} {j d:Nat} {z:List Value} {t:TypeId}
theorem holdV_env {g':Env} (hs:Sub g g') (h:HoldV P n w0 ops eff j d z t W listed s Q g' L):HoldV P n w0 ops eff j d z t W listed s Q g L :=
 ⟨fun h1 h2 h3 h4 h5 h6 a w ha hw=>h.1 h1 h2 h3 h4 h5 h6 a w (ha.sub hs) hw,fun b=>holdW_env (sub_cons' d _ hs) (h.2 b)⟩
theorem V_stA {i:Nat} {st:TypeId} {x y:Operand} {ty:TypeId} {pos:String} {af:Array Edge} {sz by':Nat} {zs:Value} [hI:Inf P st sz by' zs] {tyj:TypeId} {posj:String} {afj:Array Edge} {szj byj:Nat} {zv:Value} [hJ:Inf P t szj byj zv] (hj:ops[j]?=some ⟨some d,.alloc t,tyj,posj,afj,none⟩) (hz:zv.cells.toList=z) (heffj:eff.contains j=true) (hdj:decide (d<n)=true)
  (hi:ops[i]?=some ⟨none,.store st x y,ty,pos,af,none⟩) {b off:Nat} {c c':List Value} {e:TypeId} {vs:List Value} {R:Hp}
  (hx:ev g x=some (.pointer (some ⟨b,off,none⟩))) (hy:ev g y=some (.agg vs.toArray)) (hf:look g d=none) [hb:HasPt b L (.cells c.toArray e (0,0)) R] (hl:(vs.length==sz)=true) (h1:vs.all (·.oneCell')=true) (hc:off+vs.length≤c.length) (hc':spliceL off vs c=c') {W':Watched} (hW':Kept ops i W W')
  (hij:(i==j)=false) (heff:eff.contains i=true)
  (hk:AllLoads P w0 (pt b (.cells c'.toArray e (0,0))+R) W'∧HoldV P n w0 ops eff j d z t W' (listed.setIfInBounds i true) s Q g (pt b (.cells c'.toArray e (0,0))+R)):HoldV P n w0 ops eff j d z t W listed (i::s) Q g L:=by
 have hne:i≠j:=by simpa using hij
 have her:(i::s).erase j=i::s.erase j:=by rw [List.erase_cons_tail]; simpa using hij
 have sx:∀ {g':Env} {o:Operand} {v:Value},Sub g' g→ev g o=some v→ev g' o=some v:=by
  intro g' o v hs h
  cases o with
  | tmp k=>exact hs k v h
  | const k=>exact h
  | global k=>exact h
  | func k=>exact h
 have B:∀ b2,HoldW P n w0 ops eff W (listed.setIfInBounds j true) ((i::s).erase j) Q ((d,.pointer (some ⟨b2,0,none⟩))::g) (pt b2 (.cells z.toArray t (0,0))+L):=by
  intro b2
  rw [her]
  haveI:HasPt b (pt b2 (.cells z.toArray t (0,0))+L) (.cells c.toArray e (0,0)) (pt b2 (.cells z.toArray t (0,0))+R):=⟨by rw [hb.out]; ac_rfl⟩
  refine W_eff hi heff G G (ev_storeA (c:=c) (sx (sub_new hf) hx) (sx (sub_new hf) hy) hl h1 hc hc') hW' ?_
  rintro _ _ rfl
  obtain ⟨k1,k2⟩:=hk
  have e1:pt b (.cells c'.toArray e (0,0))+(pt b2 (.cells z.toArray t (0,0))+R)=pt b2 (.cells z.toArray t (0,0))+(pt b (.cells c'.toArray e (0,0))+R):=by ac_rfl
  rw [e1]
  refine ⟨k1.extra,?_⟩
  have:=k2.2 b2
  rw [setIf_comm hne] at this
  exact this
 refine ⟨?_,B⟩
 intro hok hokB hcl hq hsel hW a w ha hst
 simp only [okV,hij,heff,Bool.and_eq_true,if_true,Bool.false_eq_true,if_false] at hok
 obtain ⟨⟨g1,g2⟩,g3⟩:=hok
 refine ⟨fun e=>(by rw [e] at g2; simp at g2),fun q hq'=>?_⟩
 have hqq:=List.all_eq_true.1 g1 q hq'
 simp only [Bool.or_eq_true,beq_iff_eq] at hqq
 rcases hqq with hqq|hqq
 ·subst hqq
  unfold wpOp
  simp only [hi,wanted_of (o:=⟨none,.store st x y,ty,pos,af,none⟩) (g:=g) ha G,if_true]
  left
  unfold Oper.wp
  obtain ⟨v,w',L',hrun,rfl,hst'⟩:=ev_storeA (P:=P) (w0:=w0) (c:=c) hx hy hl h1 hc hc' ⟨none,.store st x y,ty,pos,af,none⟩ a w n rfl ha hst
  obtain ⟨k1,k2⟩:=hk
  have hh:=watch_holds k1.all hst'
  rw [her] at hokB
  simp only [okOrder,heff,if_true,Bool.and_eq_true] at hokB
  have hB2:=hokB.2
  rw [setIf_comm hne.symm] at hB2
  have fin:(∀ p∈(W.at P).past ops q,p.2 w')∧WG P ops (lift n w0 Q) s.length ((W.at P).past ops q) (listed.setIfInBounds q true) (a.put none v) w' :=
   ⟨fun p hp=>(hW'.at p hp).elim (hh p) (fun h=>h w'),WG_sub _ _ _ _ _ _ hW'.at (k2.1 g3 hB2 (hcl.set hq') hq hsel k1.all _ w' (ha.put (dst:=none) G v) hst')⟩
  rcases hrun with hrun|⟨hrun,rfl⟩<;>rw [hrun]<;>exact fin
 ·subst hqq
  unfold wpOp
  simp only [hj,wanted_of (o:=⟨some d,.alloc t,tyj,posj,afj,none⟩) (g:=g) ha G,if_true]
  left
  unfold Oper.wp
  obtain ⟨v,w',L',hrun,⟨b2,rfl,rfl⟩,hst'⟩:=ev_alloc (P:=P) (w0:=w0) (L:=L) (g:=g) (t:=t) ⟨some d,.alloc t,tyj,posj,afj,none⟩ a w n rfl ha hst
  have e1:pt b2 (.cells zv.cells t)=pt b2 (.cells z.toArray t (0,0)):=by rw [← hz]
  rw [e1] at hst'
  have hWx:∀ p∈W,Loads P w0 (pt b2 (.cells z.toArray t (0,0))+L) p.2.1 p.2.2.1 p.2.2.2:=fun p hp=>(hW p hp).extra
  have hB:=B b2 hokB (hcl.set hq') hq hsel hWx (a.put (some d) (.pointer (some ⟨b2,0,none⟩))) w' (ha.put (by simpa using hdj) _) hst'
  have hlen:((i::s).erase q).length=s.length:=by
   rw [List.length_erase_of_mem (List.mem_cons_of_mem _ (okV_mem g3))]; simp
  rw [hlen] at hB
  have hsub:∀ p∈(W.at P).past ops q,p∈W.at P∨∀ w,p.2 w:=fun p hp=>.inl (List.mem_filter.1 hp).1
  have hh:=watch_holds hWx hst'
  rcases hrun with hrun|⟨hrun,hu⟩
  ·rw [hrun]
   exact ⟨fun p hp=>hh p (List.mem_filter.1 hp).1,WG_sub _ _ _ _ _ _ hsub hB⟩
  ·cases hu
end
def HoldA2 (P:Program) (n:Nat) (w0:World) (ops:Array Oper) (eff:List Nat) (j1 j2:Nat) (sA sB:List Nat) (W:Watched) (listed:Array Bool) (s:List Nat) (Q:Post) (g:Env) (L:Hp):Prop :=
 okV2 ops eff j1 j2 listed s=true→okV ops eff j2 (listed.setIfInBounds j1 true) (s++sA)=true→okOrder ops eff ((listed.setIfInBounds j1 true).setIfInBounds j2 true) ((s++sA).erase j2)=true →
 okV ops eff j1 (listed.setIfInBounds j2 true) (s++sB)=true→okOrder ops eff ((listed.setIfInBounds j2 true).setIfInBounds j1 true) ((s++sB).erase j1)=true→sA.length=sB.length →
 Closed ops listed→NP Q→Region.noSelect ops=true→(∀ p∈W,Loads P w0 L p.2.1 p.2.2.1 p.2.2.2)→∀ a w,Fits n a g→St w0 w L→WG P ops (lift n w0 Q) ((s++sA).length+1) (W.at P) listed a w
structure HoldV2 (P:Program) (n:Nat) (w0:World) (ops:Array Oper) (eff:List Nat) (j1 d1:Nat) (z1:List Value) (t1:TypeId) (j2 d2:Nat) (z2:List Value) (t2:TypeId) (sA sB:List Nat) (W:Watched) (listed:Array Bool) (s:List Nat) (Q:Post) (g:Env) (L:Hp):Prop where
 ini:HoldA2 P n w0 ops eff j1 j2 sA sB W listed s Q g L
 one:∀ b,HoldV P n w0 ops eff j2 d2 z2 t2 W (listed.setIfInBounds j1 true) (s++sA) Q ((d1,.pointer (some ⟨b,0,none⟩))::g) (pt b (.cells z1.toArray t1 (0,0))+L)
 two:∀ b,HoldV P n w0 ops eff j1 d1 z1 t1 W (listed.setIfInBounds j2 true) (s++sB) Q ((d2,.pointer (some ⟨b,0,none⟩))::g) (pt b (.cells z2.toArray t2 (0,0))+L)
section
variable {P:Program} {n:Nat} {w0:World} {Q:Post} {g:Env} {L:Hp} {ops:Array Oper} {eff:List Nat} {W:Watched} {listed:Array Bool} {s sA sB:List Nat} {j1 d1 j2 d2:Nat} {z1 z2:List Value} {t1 t2:TypeId}
theorem put_sub {g:Env} {d:Nat} {u v:Value} {dst:Option Nat} (hdd:dst.all (· != d)=true):Sub (putE ((d,u)::g) dst v) ((d,u)::putE g dst v):=sub_putE hdd
theorem V2_take {i:Nat} {dst:Option Nat} {op:Op} {ty:TypeId} {pos:String} {af:Array Edge} {v:Value} (S:World→Prop) (W':Watched) (hi:ops[i]?=some ⟨dst,op,ty,pos,af,none⟩) (h1:(i==j1)=false) (h2:(i==j2)=false) (heff:eff.contains i=false) (hd:dst.all (·<n)=true) (hdd1:dst.all (· != d1)=true) (hdd2:dst.all (· != d2)=true) (hf1:look g d1=Option.none) (hf2:look g d2=Option.none) (h12:(d1==d2)=false)
  (hW':∀ p∈(i,S)::Watched.at P W,p∈Watched.at P W'∨∀ w,p.2 w) (hS:∀ w,St w0 w L→S w) (hlW:∀ L',(∀ w,St w0 w L'→St w0 w L)→(∀ p∈W,Loads P w0 L' p.2.1 p.2.2.1 p.2.2.2)→∀ p∈W',Loads P w0 L' p.2.1 p.2.2.1 p.2.2.2)
  (hy:∀ g',Sub g' g→∀ a,Fits n a g'→YieldsIf P ops S ⟨dst,op,ty,pos,af,none⟩ v a)
  (hk:HoldV2 P n w0 ops eff j1 d1 z1 t1 j2 d2 z2 t2 sA sB W' (listed.setIfInBounds i true) s Q (putE g dst v) L):HoldV2 P n w0 ops eff j1 d1 z1 t1 j2 d2 z2 t2 sA sB W listed (i::s) Q g L:=by
 have n1:i≠j1:=by simpa using h1
 have n2:i≠j2:=by simpa using h2
 have hlk1:∀ u,look ((d2,u)::g) d1=Option.none:=fun u=>by simp only [look]; rw [if_neg (by intro h; rw [h] at h12; simp at h12)]; exact hf1
 have hlk2:∀ u,look ((d1,u)::g) d2=Option.none:=fun u=>by simp only [look]; rw [if_neg (by simpa using h12)]; exact hf2
 refine ⟨?_,fun b=>?_,fun b=>?_⟩
 ·intro hok cA cA' cB cB' hl hc hq hsel hW a w ha hst
  simp only [okV2,heff,Bool.and_eq_true,Bool.false_eq_true,if_false] at hok
  obtain ⟨⟨q1,q2⟩,q3⟩:=hok
  have hr:i∈Region.ready .any ops listed:=by simpa using q1
  have erA:((i::s)++sA).erase j2=i::(s++sA).erase j2:=by rw [List.cons_append,List.erase_cons_tail]; simpa using h2
  have erB:((i::s)++sB).erase j1=i::(s++sB).erase j1:=by rw [List.cons_append,List.erase_cons_tail]; simpa using h1
  rw [List.cons_append] at cA cB
  simp only [okV,h1,h2,heff,Bool.and_eq_true,Bool.false_eq_true,if_false] at cA cB
  rw [erA] at cA'
  rw [erB] at cB'
  simp only [okOrder,Bool.and_eq_true] at cA' cB'
  have dA:=cA.2; have dB:=cB.2; have dA':=cA'.2; have dB':=cB'.2
  rw [setIf_comm n1.symm] at dA
  rw [setIf_comm n2.symm] at dB
  rw [setIf_comm n2.symm,setIf_comm n1.symm] at dA'
  rw [setIf_comm n1.symm,setIf_comm n2.symm] at dB'
  have H:=hk.ini q3 dA dA' dB dB' hl (hc.set hr) hq hsel (hlW L (fun _ h=>h) hW) (a.put dst v) w (ha.put hd v) hst
  rw [show (i::s++sA).length+1=((s++sA).length+1)+1 by simp]
  exact WG_first hi (Region.noSelect_spec hsel) (fun c a w=>lift_np c a w) _ (W.at P) listed a w hc
   (fun k ok hok' hne' hun hno=>Region.free_spec hi q2 k ok hok' hne' hun hno) hr (hy g (Sub.refl _) a ha) (hS w hst) (watch_holds hW hst) (WG_sub _ _ _ _ _ _ hW' H)
 ·have hkb:=hk.one b
  rw [setIf_comm n1] at hkb
  refine V_take S W' h2 hi heff hd hdd2 hW' (fun w hw=>hS w hw.right) (fun L' hL' hW=>hlW L' (fun w hw=>(hL' w hw).right) hW) (hy _ (sub_new hf1)) (fun b2=>hy _ (fun t' v' hh=>sub_new (hlk2 _) t' v' (sub_new hf1 t' v' hh))) (holdV_env (put_sub hdd1) hkb)
 ·have hkb:=hk.two b
  rw [setIf_comm n2] at hkb
  refine V_take S W' h1 hi heff hd hdd1 hW' (fun w hw=>hS w hw.right) (fun L' hL' hW=>hlW L' (fun w hw=>(hL' w hw).right) hW) (hy _ (sub_new hf2)) (fun b2=>hy _ (fun t' v' hh=>sub_new (hlk1 _) t' v' (sub_new hf2 t' v' hh))) (holdV_env (put_sub hdd2) hkb)
theorem V2_pure {i:Nat} {dst:Option Nat} {op:Op} {ty:TypeId} {pos:String} {af:Array Edge} {v:Value} (hi:ops[i]?=some ⟨dst,op,ty,pos,af,none⟩) (h:PV P g op v) (h1:(i==j1)=false) (h2:(i==j2)=false) (heff:eff.contains i=false) (hd:dst.all (·<n)=true) (hdd1:dst.all (· != d1)=true) (hdd2:dst.all (· != d2)=true) (hf1:look g d1=Option.none) (hf2:look g d2=Option.none) (h12:(d1==d2)=false)
  (hk:HoldV2 P n w0 ops eff j1 d1 z1 t1 j2 d2 z2 t2 sA sB W (listed.setIfInBounds i true) s Q (putE g dst v) L):HoldV2 P n w0 ops eff j1 d1 z1 t1 j2 d2 z2 t2 sA sB W listed (i::s) Q g L :=
 V2_take (fun _=>True) W hi h1 h2 heff hd hdd1 hdd2 hf1 hf2 h12 (fun p hp=>(List.mem_cons.1 hp).elim (fun e=>.inr fun _=>by rw [e]; trivial) .inl) (fun _ _=>trivial) (fun _ _ h=>h)
  (fun g' hs a ha=>.inl ⟨wanted_of (o:=⟨dst,op,ty,pos,af,none⟩) (g:=g') ha G,fun w _=>h.sub hs ⟨dst,op,ty,pos,af,none⟩ a w n G ha⟩) hk
theorem V2_of {i:Nat} {dst:Option Nat} {op:Op} {ty:TypeId} {pos:String} {af:Array Edge} {v:Value} (hi:ops[i]?=some ⟨dst,op,ty,pos,af,none⟩) (h:pureV g op=some v) (h1:(i==j1)=false) (h2:(i==j2)=false) (heff:eff.contains i=false) (hd:dst.all (·<n)=true) (hdd1:dst.all (· != d1)=true) (hdd2:dst.all (· != d2)=true) (hf1:look g d1=Option.none) (hf2:look g d2=Option.none) (h12:(d1==d2)=false)
  (hk:HoldV2 P n w0 ops eff j1 d1 z1 t1 j2 d2 z2 t2 sA sB W (listed.setIfInBounds i true) s Q (putE g dst v) L):HoldV2 P n w0 ops eff j1 d1 z1 t1 j2 d2 z2 t2 sA sB W listed (i::s) Q g L:=V2_pure hi (pv_of h) h1 h2 heff hd hdd1 hdd2 hf1 hf2 h12 hk
theorem V2_load {i:Nat} {dst:Option Nat} {op:Op} {ty tl:TypeId} {pos:String} {af:Array Edge} {v:Value} {ad:Addr} (hi:ops[i]?=some ⟨dst,op,ty,pos,af,none⟩) (h:LV g op tl ad) (hr:Loads P w0 L tl ad v) (h1:(i==j1)=false) (h2:(i==j2)=false) (heff:eff.contains i=false) (hd:dst.all (·<n)=true) (hdd1:dst.all (· != d1)=true) (hdd2:dst.all (· != d2)=true) (hf1:look g d1=Option.none) (hf2:look g d2=Option.none) (h12:(d1==d2)=false)
  (hk:HoldV2 P n w0 ops eff j1 d1 z1 t1 j2 d2 z2 t2 sA sB ((i,tl,ad,v)::W) (listed.setIfInBounds i true) s Q (putE g dst v) L):HoldV2 P n w0 ops eff j1 d1 z1 t1 j2 d2 z2 t2 sA sB W listed (i::s) Q g L :=
 V2_take (fun w=>(loadVar tl ad).run P w=.ok v w) ((i,tl,ad,v)::W) hi h1 h2 heff hd hdd1 hdd2 hf1 hf2 h12 (fun p hp=>.inl hp) (fun w hst=>hr w hst)
  (fun L' hL' hW p hp=>by
   rcases List.mem_cons.1 hp with rfl|hp
   ·exact fun w hw=>hr w (hL' w hw)
   ·exact hW p hp)
  (fun g' hs a ha=>.inl ⟨wanted_of (o:=⟨dst,op,ty,pos,af,none⟩) (g:=g') ha G,fun w hS=>by rw [h.sub hs ⟨dst,op,ty,pos,af,none⟩ a n G ha]; simp only [Sem.run_bind,hS,Result.andThen_ok,Sem.run_pure]⟩) hk
theorem V2_first {W:Watched} {tyj1 tyj2:TypeId} {pos1 pos2:String} {af1 af2:Array Edge} {sz1 by1 sz2 by2:Nat} {zv1 zv2:Value} [I1:Inf P t1 sz1 by1 zv1] [I2:Inf P t2 sz2 by2 zv2] (hj1:ops[j1]?=some ⟨some d1,.alloc t1,tyj1,pos1,af1,none⟩) (hj2:ops[j2]?=some ⟨some d2,.alloc t2,tyj2,pos2,af2,none⟩)
  (hz1:zv1.cells.toList=z1) (hz2:zv2.cells.toList=z2) (hd1:decide (d1<n)=true) (hd2:decide (d2<n)=true)
  (A:∀ b,HoldV P n w0 ops eff j2 d2 z2 t2 W (listed.setIfInBounds j1 true) (s++sA) Q ((d1,.pointer (some ⟨b,0,none⟩))::g) (pt b (.cells z1.toArray t1 (0,0))+L))
  (B:∀ b,HoldV P n w0 ops eff j1 d1 z1 t1 W (listed.setIfInBounds j2 true) (s++sB) Q ((d2,.pointer (some ⟨b,0,none⟩))::g) (pt b (.cells z2.toArray t2 (0,0))+L))
  (cA:okV ops eff j2 (listed.setIfInBounds j1 true) (s++sA)=true) (cA':okOrder ops eff ((listed.setIfInBounds j1 true).setIfInBounds j2 true) ((s++sA).erase j2)=true)
  (cB:okV ops eff j1 (listed.setIfInBounds j2 true) (s++sB)=true) (cB':okOrder ops eff ((listed.setIfInBounds j2 true).setIfInBounds j1 true) ((s++sB).erase j1)=true) (hl:sA.length=sB.length)
  (hc:Closed ops listed) (hq:NP Q) (hsel:Region.noSelect ops=true) (hW:∀ p∈W,Loads P w0 L p.2.1 p.2.2.1 p.2.2.2) {a:Act} {w:World} (ha:Fits n a g) (hst:St w0 w L) {q:Nat} (hr:q∈Region.ready .any ops listed) (hqq:q=j1∨q=j2) :
  wpOp P ops (lift n w0 Q) q (fun a' w'=>(∀ p∈(W.at P).past ops q,p.2 w')∧WG P ops (lift n w0 Q) (s++sA).length ((W.at P).past ops q) (listed.setIfInBounds q true) a' w') a w:=by
 have hsub:∀ p∈(W.at P).past ops q,p∈W.at P∨∀ w,p.2 w:=fun p hp=>.inl (List.mem_filter.1 hp).1
 rcases hqq with rfl|rfl
 ·unfold wpOp
  simp only [hj1,wanted_of (o:=⟨some d1,.alloc t1,tyj1,pos1,af1,none⟩) (g:=g) ha G,if_true]
  left
  unfold Oper.wp
  obtain ⟨v,w',L',hrun,⟨b,rfl,rfl⟩,hst'⟩:=ev_alloc (P:=P) (w0:=w0) (L:=L) (g:=g) (t:=t1) ⟨some d1,.alloc t1,tyj1,pos1,af1,none⟩ a w n rfl ha hst
  have e1:pt b (.cells zv1.cells t1)=pt b (.cells z1.toArray t1 (0,0)):=by rw [← hz1]
  rw [e1] at hst'
  have hWx:∀ p∈W,Loads P w0 (pt b (.cells z1.toArray t1 (0,0))+L) p.2.1 p.2.2.1 p.2.2.2:=fun p hp=>(hW p hp).extra
  have hB:=(A b).1 cA cA' (hc.set hr) hq hsel hWx (a.put (some d1) (.pointer (some ⟨b,0,none⟩))) w' (ha.put (by simpa using hd1) _) hst'
  have hh:=watch_holds hWx hst'
  rcases hrun with hrun|⟨hrun,hu⟩
  ·rw [hrun]
   exact ⟨fun p hp=>hh p (List.mem_filter.1 hp).1,WG_sub _ _ _ _ _ _ hsub hB⟩
  ·cases hu
 ·unfold wpOp
  simp only [hj2,wanted_of (o:=⟨some d2,.alloc t2,tyj2,pos2,af2,none⟩) (g:=g) ha G,if_true]
  left
  unfold Oper.wp
  obtain ⟨v,w',L',hrun,⟨b,rfl,rfl⟩,hst'⟩:=ev_alloc (P:=P) (w0:=w0) (L:=L) (g:=g) (t:=t2) ⟨some d2,.alloc t2,tyj2,pos2,af2,none⟩ a w n rfl ha hst
  have e1:pt b (.cells zv2.cells t2)=pt b (.cells z2.toArray t2 (0,0)):=by rw [← hz2]
  rw [e1] at hst'
  have hWx:∀ p∈W,Loads P w0 (pt b (.cells z2.toArray t2 (0,0))+L) p.2.1 p.2.2.1 p.2.2.2:=fun p hp=>(hW p hp).extra
  have hB:=(B b).1 cB cB' (hc.set hr) hq hsel hWx (a.put (some d2) (.pointer (some ⟨b,0,none⟩))) w' (ha.put (by simpa using hd2) _) hst'
  have hh:=watch_holds hWx hst'
  rw [show (s++sA).length=(s++sB).length by rw [List.length_append,List.length_append,hl]]
  rcases hrun with hrun|⟨hrun,hu⟩
  ·rw [hrun]
   exact ⟨fun p hp=>hh p (List.mem_filter.1 hp).1,WG_sub _ _ _ _ _ _ hsub hB⟩
  ·cases hu
theorem V2_now {tyj1 tyj2:TypeId} {pos1 pos2:String} {af1 af2:Array Edge} {sz1 by1 sz2 by2:Nat} {zv1 zv2:Value} [I1:Inf P t1 sz1 by1 zv1] [I2:Inf P t2 sz2 by2 zv2] (hj1:ops[j1]?=some ⟨some d1,.alloc t1,tyj1,pos1,af1,none⟩) (hj2:ops[j2]?=some ⟨some d2,.alloc t2,tyj2,pos2,af2,none⟩)
  (hz1:zv1.cells.toList=z1) (hz2:zv2.cells.toList=z2) (hd1:decide (d1<n)=true) (hd2:decide (d2<n)=true)
  (A:∀ b,HoldV P n w0 ops eff j2 d2 z2 t2 W (listed.setIfInBounds j1 true) sA Q ((d1,.pointer (some ⟨b,0,none⟩))::g) (pt b (.cells z1.toArray t1 (0,0))+L))
  (B:∀ b,HoldV P n w0 ops eff j1 d1 z1 t1 W (listed.setIfInBounds j2 true) sB Q ((d2,.pointer (some ⟨b,0,none⟩))::g) (pt b (.cells z2.toArray t2 (0,0))+L)) :
  HoldV2 P n w0 ops eff j1 d1 z1 t1 j2 d2 z2 t2 sA sB W listed [] Q g L:=by
 refine ⟨?_,A,B⟩
 intro hok cA cA' cB cB' hl hc hq hsel hW a w ha hst
 simp only [okV2,Bool.and_eq_true] at hok
 obtain ⟨q1,q2⟩:=hok
 refine ⟨fun e=>(by rw [e] at q2; simp at q2),fun q hq'=>?_⟩
 have hqq:=List.all_eq_true.1 q1 q hq'
 simp only [Bool.or_eq_true,beq_iff_eq] at hqq
 exact V2_first (s:=[]) hj1 hj2 hz1 hz2 hd1 hd2 A B cA cA' cB cB' hl hc hq hsel hW ha hst hq' hqq
theorem V2_call {i:Nat} {dst:Option Nat} {op:Op} {ty:TypeId} {pos:String} {af:Array Edge} {tyj1 tyj2:TypeId} {pos1 pos2:String} {af1 af2:Array Edge} {sz1 by1 sz2 by2:Nat} {zv1 zv2:Value} [I1:Inf P t1 sz1 by1 zv1] [I2:Inf P t2 sz2 by2 zv2] (hj1:ops[j1]?=some ⟨some d1,.alloc t1,tyj1,pos1,af1,none⟩) (hj2:ops[j2]?=some ⟨some d2,.alloc t2,tyj2,pos2,af2,none⟩)
  (hz1:zv1.cells.toList=z1) (hz2:zv2.cells.toList=z2) (he1:eff.contains j1=true) (he2:eff.contains j2=true) (hd1:decide (d1<n)=true) (hd2:decide (d2<n)=true)
  (hi:ops[i]?=some ⟨dst,op,ty,pos,af,none⟩) {k:FuncId} {args:List Value} (h:CV P g op k args) {pre R:Hp} {post:Value→Hp→Prop} (hs:Spec P w0 k args pre post) [hL:yK pre L R] {W':Watched} (hW':Kept ops i W W')
  (h1:(i==j1)=false) (h2:(i==j2)=false) (heff:eff.contains i=true) (hd:dst.all (·<n)=true) (hdd1:dst.all (· != d1)=true) (hdd2:dst.all (· != d2)=true) (hf1:look g d1=Option.none) (hf2:look g d2=Option.none) (h12:(d1==d2)=false)
  (hk:∀ v h,post v h→AllLoads P w0 (h+R) W'∧HoldV2 P n w0 ops eff j1 d1 z1 t1 j2 d2 z2 t2 sA sB W' (listed.setIfInBounds i true) s Q (putE g dst v) (h+R)) :
  HoldV2 P n w0 ops eff j1 d1 z1 t1 j2 d2 z2 t2 sA sB W listed (i::s) Q g L:=by
 have n1:i≠j1:=by simpa using h1
 have n2:i≠j2:=by simpa using h2
 have hlk1:∀ u,look ((d2,u)::g) d1=Option.none:=fun u=>by simp only [look]; rw [if_neg (by intro h; rw [h] at h12; simp at h12)]; exact hf1
 have hlk2:∀ u,look ((d1,u)::g) d2=Option.none:=fun u=>by simp only [look]; rw [if_neg (by simpa using h12)]; exact hf2
 have A:∀ b,HoldV P n w0 ops eff j2 d2 z2 t2 W (listed.setIfInBounds j1 true) (i::(s++sA)) Q ((d1,.pointer (some ⟨b,0,none⟩))::g) (pt b (.cells z1.toArray t1 (0,0))+L):=by
  intro b
  haveI:yK pre (pt b (.cells z1.toArray t1 (0,0))+L) (pt b (.cells z1.toArray t1 (0,0))+R):=⟨by rw [hL.out]; ac_rfl⟩
  refine V_call hj2 hz2 he2 hd2 hi (h.sub (sub_new hf1)) (fun p=>h.sub (fun t' v' hh=>sub_new (hlk2 _) t' v' (sub_new hf1 t' v' hh))) hs hW' h2 heff hd hdd2 fun v hh hp=>?_
  obtain ⟨k1,k2⟩:=hk v hh hp
  have e:hh+(pt b (.cells z1.toArray t1 (0,0))+R)=pt b (.cells z1.toArray t1 (0,0))+(hh+R):=by ac_rfl
  rw [e]
  refine ⟨k1.extra,?_⟩
  have:=k2.one b
  rw [setIf_comm n1] at this
  exact holdV_env (put_sub hdd1) this
 have B:∀ b,HoldV P n w0 ops eff j1 d1 z1 t1 W (listed.setIfInBounds j2 true) (i::(s++sB)) Q ((d2,.pointer (some ⟨b,0,none⟩))::g) (pt b (.cells z2.toArray t2 (0,0))+L):=by
  intro b
  haveI:yK pre (pt b (.cells z2.toArray t2 (0,0))+L) (pt b (.cells z2.toArray t2 (0,0))+R):=⟨by rw [hL.out]; ac_rfl⟩
  refine V_call hj1 hz1 he1 hd1 hi (h.sub (sub_new hf2)) (fun p=>h.sub (fun t' v' hh=>sub_new (hlk1 _) t' v' (sub_new hf2 t' v' hh))) hs hW' h1 heff hd hdd1 fun v hh hp=>?_
  obtain ⟨k1,k2⟩:=hk v hh hp
  have e:hh+(pt b (.cells z2.toArray t2 (0,0))+R)=pt b (.cells z2.toArray t2 (0,0))+(hh+R):=by ac_rfl
  rw [e]
  refine ⟨k1.extra,?_⟩
  have:=k2.two b
  rw [setIf_comm n2] at this
  exact holdV_env (put_sub hdd2) this
 refine ⟨?_,A,B⟩
 intro hok cA cA' cB cB' hl hc hq hsel hW a w ha hst
 simp only [okV2,heff,Bool.and_eq_true,if_true] at hok
 obtain ⟨⟨q1,q2⟩,q3⟩:=hok
 refine ⟨fun e=>(by rw [e] at q2; simp at q2),fun q hq'=>?_⟩
 have hqq:=List.all_eq_true.1 q1 q hq'
 simp only [Bool.or_eq_true,beq_iff_eq] at hqq
 rcases hqq with hqq|hqq
 ·subst hqq
  have erA:((q::s)++sA).erase j2=q::(s++sA).erase j2:=by rw [List.cons_append,List.erase_cons_tail]; simpa using h2
  have erB:((q::s)++sB).erase j1=q::(s++sB).erase j1:=by rw [List.cons_append,List.erase_cons_tail]; simpa using h1
  rw [List.cons_append] at cA cB
  simp only [okV,h1,h2,heff,Bool.and_eq_true,if_true,Bool.false_eq_true,if_false] at cA cB
  rw [erA] at cA'
  rw [erB] at cB'
  simp only [okOrder,heff,if_true,Bool.and_eq_true] at cA' cB'
  have dA:=cA.2; have dB:=cB.2; have dA':=cA'.2; have dB':=cB'.2
  rw [setIf_comm n1.symm] at dA
  rw [setIf_comm n2.symm] at dB
  rw [setIf_comm n2.symm,setIf_comm n1.symm] at dA'
  rw [setIf_comm n1.symm,setIf_comm n2.symm] at dB'
  unfold wpOp
  simp only [hi,wanted_of (o:=⟨dst,op,ty,pos,af,none⟩) (g:=g) ha G,if_true]
  left
  unfold Oper.wp
  rw [h ⟨dst,op,ty,pos,af,none⟩ a w n G ha]
  have hst2:=hst
  rw [hL.out] at hst2
  refine Calls.mono (hs w R hst2) ?_
  rintro e w' ⟨v,h',rfl,hp,hst'⟩
  obtain ⟨k1,k2⟩:=hk v h' hp
  have hh:=watch_holds k1.all hst'
  exact ⟨fun p hp=>(hW'.at p hp).elim (hh p) (fun h=>h w'),WG_sub _ _ _ _ _ _ hW'.at (k2.ini q3 dA dA' dB dB' hl (hc.set hq') hq hsel k1.all _ w' (ha.put hd v) hst')⟩
 ·exact V2_first (s:=i::s) hj1 hj2 hz1 hz2 hd1 hd2 A B cA cA' cB cB' hl hc hq hsel hW ha hst hq' hqq
theorem hold_drawV2 {id:Nat} [hq:NP Q] (eff s sA sB:List Nat) (j1 d1:Nat) (z1:List Value) (t1:TypeId) (j2 d2:Nat) (z2:List Value) (t2:TypeId) (hm:P.follows .mixedOrders=true) (hl:(s++sA).length+1=ops.size) (hl2:sA.length=sB.length) (hs:Region.noSelect ops=true)
  (hok:okV2 ops eff j1 j2 (Array.replicate ops.size false) s=true) (cA:okV ops eff j2 ((Array.replicate ops.size false).setIfInBounds j1 true) (s++sA)=true) (cA':okOrder ops eff (((Array.replicate ops.size false).setIfInBounds j1 true).setIfInBounds j2 true) ((s++sA).erase j2)=true)
  (cB:okV ops eff j1 ((Array.replicate ops.size false).setIfInBounds j2 true) (s++sB)=true) (cB':okOrder ops eff (((Array.replicate ops.size false).setIfInBounds j2 true).setIfInBounds j1 true) ((s++sB).erase j1)=true)
  (h:HoldV2 P n w0 ops eff j1 d1 z1 t1 j2 d2 z2 t2 sA sB [] (Array.replicate ops.size false) s Q g L):Hold P n w0 (.region id ops true) Q g L:=by
 intro a w ha hst
 refine wp_region_any hm (WG_any _ [] _ _ _ ?_)
 rw [← hl]
 have:=h.ini hok cA cA' cB cB' hl2 (Closed.start ops _) hq hs (by simp) a { w with drawn:=w.drawn+1 } ha hst.drew
 rw [← hl] at this
 exact this
end
end Sl
end Go.Proofs.YtpkealohodeifaaGreat
namespace Go.Proofs.YtpkealohodeifaaGreat
open Go Go.RowKit
namespace Sl
set_option maxHeartbeats 16000000
set_option maxRecDepth 4000
set_option synthInstance.maxHeartbeats 400000
set_option synthInstance.maxSize 100000
attribute [local irreducible] Hold HoldL HoldW
theorem take_more {α:Type} {xs ys:List α} {k:Nat} (hx:k<xs.length) (hy:k<ys.length) (h:xs.take k=ys.take k) (e:xs[k]=ys[k]):xs.take (k+1)=ys.take (k+1):=by
 rw [List.take_succ_eq_append_getElem hx,List.take_succ_eq_append_getElem hy,h,e]
theorem sameB_spec (w0:World) (X:Hp) (v u:Value) (xs ys:List Bt) (hv:RdL w0 X v xs) (hu:RdL w0 X u ys) (hl:xs.length≤1000000000) (hl2:ys.length≤1000000000) :
  Spec Tryz.prog w0 19 [v,u] X (fun r h'=>r=.bool (decide (xs=ys))∧X=h'):=by
 obtain ⟨a,c,rfl⟩:=hv.shape
 obtain ⟨a2,c2,rfl⟩:=hu.shape
 refine zN Tryz.func19 G Tryz.ntmps19 Tryz.results19 G fun fr=>?_
 repeat (first|refine zF ?_|refine zB ?_|refine zE ?_|refine zK G G G ?_|refine L_len G G G ?_)
 refine yG G G (pv_neq G G) (fun n1=>?_) (fun n1=>?_)
 ·repeat (first|refine zF ?_|refine zB ?_|refine zE ?_|refine zK G G G ?_|refine zM ?_|refine zJ G ?_)
  exact ⟨[_],X,_,⟨rfl,trivial⟩,⟨bool_F (fun h=>n1 (by rw [h])),rfl⟩,yK.out⟩
 ·have hll:xs.length=ys.length:=by omega
  repeat (first|refine zF ?_|refine zR ?_|refine zB ?_|refine zE ?_|refine zK G G G ?_|refine zP ?_|refine zI G ?_)
  refine hold_count xs.length (fun k g L=>∃ (R:Hp),g=[(0,.slice a xs.length c),(1,.slice a2 ys.length c2),(5,.int .i64 k)]∧xs.take k=ys.take k∧L=X+fr+R) _ ⟨0,rfl,by simp,(yB _).symm⟩ (by repeat (first|exact zT _|refine zO G ?_)) ?_
  rintro k g L hk ⟨R,rfl,hpre,rfl⟩
  repeat (first|refine zF ?_|refine zB ?_|refine zK G G G ?_|refine L_len G G G ?_)
  refine yG G G (pv_lss G G) (fun n2=>?_) (fun n2=>?_)
  ·have hx:k<xs.length:=by omega
   have hy:k<ys.length:=by omega
   obtain ⟨b2,o2,rfl,e,rfl,hat⟩:=hv.at hx
   obtain ⟨b3,o3,rfl,e',rfl,hat'⟩:=hu.at hy
   repeat (first|refine zF ?_|refine zR ?_|refine zE ?_|refine zP ?_|refine zJ G ?_)
   refine yC [] [0,1,2,3,4,5,6,7,8] (by kernel_rfl) G (by kernel_rfl) (by kernel_rfl) ?_
   repeat (first|refine yI G G G G G ?_|refine W_idx G G G (by omega) G G G ?_|refine W_at G G (by assumption) G G G G G ?_)
   refine W_dec G G G G (pv_neq G G) (fun n3=>?_) (fun n3=>?_)
   ·repeat (refine yJ ?_)
    repeat (first|refine zF ?_|refine zB ?_|refine zE ?_|refine zK G G G ?_|refine zM ?_|refine zJ G ?_)
    exact ⟨[_],X,_,⟨rfl,trivial⟩,⟨bool_F (fun h=>n3 (by subst h; rfl)),rfl⟩,yK.out⟩
   ·have e:xs[k]=ys[k]:=Fin.ext (by omega)
    repeat (refine yJ ?_)
    repeat (first|refine zB ?_|refine zE ?_|refine zK G G G ?_|refine zP ?_|refine zI G ?_|refine L_add G G (by omega) (by omega) G G ?_)
    exact ⟨hx,_,(by repeat (first|exact zT _|refine zO G ?_)),_,rfl,take_more hx hy hpre e,yK.out⟩
  ·repeat (first|refine zF ?_|refine yD ?_|refine zB ?_|refine zE ?_|refine zK G G G ?_|refine zM ?_|refine zI G ?_)
   rw [List.take_of_length_le (by omega),List.take_of_length_le (by omega)] at hpre
   exact ⟨[_],X,_,⟨rfl,trivial⟩,⟨bool_T hpre,rfl⟩,yK.out⟩
theorem sameI_spec (w0:World) (X:Hp) (v u:Value) (xs ys:List Int) (hv:RdL w0 X v xs) (hu:RdL w0 X u ys) (hl:xs.length≤1000000000) (hl2:ys.length≤1000000000) :
  Spec Tryz.prog w0 45 [v,u] X (fun r h'=>r=.bool (decide (xs=ys))∧X=h'):=by
 obtain ⟨a,c,rfl⟩:=hv.shape
 obtain ⟨a2,c2,rfl⟩:=hu.shape
 refine zN Tryz.func45 G Tryz.ntmps45 Tryz.results45 G fun fr=>?_
 repeat (first|refine zF ?_|refine zB ?_|refine zE ?_|refine zK G G G ?_|refine L_len G G G ?_)
 refine yG G G (pv_neq G G) (fun n1=>?_) (fun n1=>?_)
 ·repeat (first|refine zF ?_|refine zB ?_|refine zE ?_|refine zK G G G ?_|refine zM ?_|refine zJ G ?_)
  exact ⟨[_],X,_,⟨rfl,trivial⟩,⟨bool_F (fun h=>n1 (by rw [h])),rfl⟩,yK.out⟩
 ·have hll:xs.length=ys.length:=by omega
  repeat (first|refine zF ?_|refine zR ?_|refine zB ?_|refine zE ?_|refine zK G G G ?_|refine zP ?_|refine zI G ?_)
  refine hold_count xs.length (fun k g L=>∃ (R:Hp),g=[(0,.slice a xs.length c),(1,.slice a2 ys.length c2),(5,.int .i64 k)]∧xs.take k=ys.take k∧L=X+fr+R) _ ⟨0,rfl,by simp,(yB _).symm⟩ (by repeat (first|exact zT _|refine zO G ?_)) ?_
  rintro k g L hk ⟨R,rfl,hpre,rfl⟩
  repeat (first|refine zF ?_|refine zB ?_|refine zK G G G ?_|refine L_len G G G ?_)
  refine yG G G (pv_lss G G) (fun n2=>?_) (fun n2=>?_)
  ·have hx:k<xs.length:=by omega
   have hy:k<ys.length:=by omega
   obtain ⟨b2,o2,rfl,e,rfl,hat⟩:=hv.at hx
   obtain ⟨b3,o3,rfl,e',rfl,hat'⟩:=hu.at hy
   repeat (first|refine zF ?_|refine zR ?_|refine zE ?_|refine zP ?_|refine zJ G ?_)
   refine yC [] [0,1,2,3,4,5,6,7,8] (by kernel_rfl) G (by kernel_rfl) (by kernel_rfl) ?_
   repeat (first|refine yI G G G G G ?_|refine W_idx G G G (by omega) G G G ?_|refine W_at G G (by assumption) G G G G G ?_)
   refine W_dec G G G G (pv_neq G G) (fun n3=>?_) (fun n3=>?_)
   ·repeat (refine yJ ?_)
    repeat (first|refine zF ?_|refine zB ?_|refine zE ?_|refine zK G G G ?_|refine zM ?_|refine zJ G ?_)
    exact ⟨[_],X,_,⟨rfl,trivial⟩,⟨bool_F (fun h=>n3 (by subst h; rfl)),rfl⟩,yK.out⟩
   ·have e:xs[k]=ys[k]:=Classical.byContradiction n3
    repeat (refine yJ ?_)
    repeat (first|refine zB ?_|refine zE ?_|refine zK G G G ?_|refine zP ?_|refine zI G ?_|refine L_add G G (by omega) (by omega) G G ?_)
    exact ⟨hx,_,(by repeat (first|exact zT _|refine zO G ?_)),_,rfl,take_more hx hy hpre e,yK.out⟩
  ·repeat (first|refine zF ?_|refine yD ?_|refine zB ?_|refine zE ?_|refine zK G G G ?_|refine zM ?_|refine zI G ?_)
   rw [List.take_of_length_le (by omega),List.take_of_length_le (by omega)] at hpre
   exact ⟨[_],X,_,⟨rfl,trivial⟩,⟨bool_T hpre,rfl⟩,yK.out⟩
theorem sameL_spec (w0:World) (X:Hp) (v u:Value) (xs ys:List Lk) (hv:RdL w0 X v xs) (hu:RdL w0 X u ys) (hl:xs.length≤1000000000) (hl2:ys.length≤1000000000) :
  Spec Tryz.prog w0 74 [v,u] X (fun r h'=>r=.bool (decide (xs=ys))∧X=h'):=by
 obtain ⟨a,c,rfl⟩:=hv.shape
 obtain ⟨a2,c2,rfl⟩:=hu.shape
 refine zN Tryz.func74 G Tryz.ntmps74 Tryz.results74 G fun fr=>?_
 repeat (first|refine zF ?_|refine zB ?_|refine zE ?_|refine zK G G G ?_|refine L_len G G G ?_)
 refine yG G G (pv_neq G G) (fun n1=>?_) (fun n1=>?_)
 ·repeat (first|refine zF ?_|refine zB ?_|refine zE ?_|refine zK G G G ?_|refine zM ?_|refine zJ G ?_)
  exact ⟨[_],X,_,⟨rfl,trivial⟩,⟨bool_F (fun h=>n1 (by rw [h])),rfl⟩,yK.out⟩
 ·have hll:xs.length=ys.length:=by omega
  repeat (first|refine zF ?_|refine zR ?_|refine zB ?_|refine zE ?_|refine zK G G G ?_|refine zP ?_|refine zI G ?_)
  refine hold_count xs.length (fun k g L=>∃ (R:Hp),g=[(0,.slice a xs.length c),(1,.slice a2 ys.length c2),(5,.int .i64 k)]∧xs.take k=ys.take k∧L=X+fr+R) _ ⟨0,rfl,by simp,(yB _).symm⟩ (by repeat (first|exact zT _|refine zO G ?_)) ?_
  rintro k g L hk ⟨R,rfl,hpre,rfl⟩
  repeat (first|refine zF ?_|refine zB ?_|refine zK G G G ?_|refine L_len G G G ?_)
  refine yG G G (pv_lss G G) (fun n2=>?_) (fun n2=>?_)
  ·have hx:k<xs.length:=by omega
   have hy:k<ys.length:=by omega
   obtain ⟨b2,o2,rfl,e,rfl,hat⟩:=hv.at hx
   obtain ⟨b3,o3,rfl,e',rfl,hat'⟩:=hu.at hy
   repeat (first|refine zF ?_|refine zR ?_|refine zE ?_|refine zP ?_|refine zJ G ?_)
   refine yC [] [0,1,2,3,4,5,6,7,8] (by kernel_rfl) G (by kernel_rfl) (by kernel_rfl) ?_
   repeat (first|refine yI G G G G G ?_|refine W_idx G G G (by omega) G G G ?_|refine W_atA G G (by assumption) G G G G G ?_)
   refine W_bool G G G G (pv_neq_struct (r:=(decide (xs[k].block=ys[k].block)&&(decide (xs[k].txn=ys[k].txn)&&(decide (xs[k].age=ys[k].age)&&((xs[k].write==ys[k].write)&&true))))) G G (by kernel_rfl) (by kernel_rfl) (by kernel_rfl)) (fun h3=>?_) (fun h3=>?_)
   ·repeat (refine yJ ?_)
    repeat (first|refine zF ?_|refine zB ?_|refine zE ?_|refine zK G G G ?_|refine zM ?_|refine zJ G ?_)
    exact ⟨[_],X,_,⟨rfl,trivial⟩,⟨bool_F (fun h=>by subst h; simp at h3),rfl⟩,yK.out⟩
   ·have e:xs[k]=ys[k]:=by
     simp only [Bool.not_eq_false',Bool.and_eq_true,decide_eq_true_eq,beq_iff_eq,and_true] at h3
     obtain ⟨e1,e2,e3,e4⟩:=h3
     have:∀ a b:Lk,a.block=b.block→a.txn=b.txn→a.age=b.age→a.write=b.write→a=b:=by
      rintro ⟨_,_,_,_⟩ ⟨_,_,_,_⟩ rfl rfl rfl rfl; rfl
     exact this _ _ e1 e2 e3 e4
    repeat (refine yJ ?_)
    repeat (first|refine zB ?_|refine zE ?_|refine zK G G G ?_|refine zP ?_|refine zI G ?_|refine L_add G G (by omega) (by omega) G G ?_)
    exact ⟨hx,_,(by repeat (first|exact zT _|refine zO G ?_)),_,rfl,take_more hx hy hpre e,yK.out⟩
  ·repeat (first|refine zF ?_|refine yD ?_|refine zB ?_|refine zE ?_|refine zK G G G ?_|refine zM ?_|refine zI G ?_)
   rw [List.take_of_length_le (by omega),List.take_of_length_le (by omega)] at hpre
   exact ⟨[_],X,_,⟨rfl,trivial⟩,⟨bool_T hpre,rfl⟩,yK.out⟩
theorem sameBlk1_spec (w0:World) (X:Hp) (x y:Blk) (e f:List Value) (he:Rep.rd w0 X x e) (hf:Rep.rd w0 X y f) (hx:x.data.length≤1000000000) (hy:y.data.length≤1000000000) :
  Spec Tryz.prog w0 106 [.agg e.toArray,.agg f.toArray] X (fun r h'=>r=.bool (decide (x=y))∧X=h'):=by
 obtain ⟨a,c,rfl,rx⟩:=he
 obtain ⟨a2,c2,rfl,ry⟩:=hf
 refine zN Tryz.func106 G Tryz.ntmps106 Tryz.results106 G fun fr=>?_
 repeat (first|refine zF ?_|refine zB ?_|refine zE ?_|refine zK G G G ?_|refine zZ G G G G G ?_|refine L_ld G G G G G ?_|refine L_box G (c:=[_,_]) G G G (fun _=>?_))
 refine yG G G (pv_eql G G) (fun q0=>?_) (fun q0=>?_)
 rotate_left
 ·repeat (first|refine zE ?_|refine zK G G G ?_|refine L_skip G G ?_|refine zM ?_)
  exact ⟨[_],X,_,⟨rfl,trivial⟩,⟨bool_F (fun h=>q0 (by rw [h])),rfl⟩,yK.out⟩
 ·repeat (first|refine zK G G G ?_|refine zZ G G G G G ?_|refine L_ld G G G G G ?_)
  skip
  refine zY G G (zQ G G G) (sameB_spec w0 X _ _ x.data y.data rx ry hx hy) ?_
  rintro _ _ ⟨rfl,rfl⟩
  by_cases c0:x.data=y.data
  rotate_left
  ·rw [decide_eq_false c0]
   repeat (first|refine zE ?_|refine zK G G G ?_|refine zM ?_)
   exact ⟨[_],X,_,⟨rfl,trivial⟩,⟨bool_F (fun h=>c0 (by rw [h])),rfl⟩,yK.out⟩
  ·rw [decide_eq_true c0]
   repeat (first|refine zE ?_|refine zK G G G ?_|refine zM ?_)
   exact ⟨[_],X,_,⟨rfl,trivial⟩,⟨bool_T (by cases x; cases y; simp only at q0 c0; subst q0 c0; rfl),rfl⟩,yK.out⟩
theorem sameWr1_spec (w0:World) (X:Hp) (x y:Wr) (e f:List Value) (he:Rep.rd w0 X x e) (hf:Rep.rd w0 X y f) (hx:x.data.length≤1000000000) (hy:y.data.length≤1000000000) :
  Spec Tryz.prog w0 224 [.agg e.toArray,.agg f.toArray] X (fun r h'=>r=.bool (decide (x=y))∧X=h'):=by
 obtain ⟨a,c,rfl,rx⟩:=he
 obtain ⟨a2,c2,rfl,ry⟩:=hf
 refine zN Tryz.func224 G Tryz.ntmps224 Tryz.results224 G fun fr=>?_
 repeat (first|refine zF ?_|refine zB ?_|refine zE ?_|refine zK G G G ?_|refine zZ G G G G G ?_|refine L_ld G G G G G ?_|refine L_box G (c:=[_,_]) G G G (fun _=>?_))
 refine yG G G (pv_eql G G) (fun q0=>?_) (fun q0=>?_)
 rotate_left
 ·repeat (first|refine zE ?_|refine zK G G G ?_|refine L_skip G G ?_|refine zM ?_)
  exact ⟨[_],X,_,⟨rfl,trivial⟩,⟨bool_F (fun h=>q0 (by rw [h])),rfl⟩,yK.out⟩
 ·repeat (first|refine zK G G G ?_|refine zZ G G G G G ?_|refine L_ld G G G G G ?_)
  skip
  refine zY G G (zQ G G G) (sameB_spec w0 X _ _ x.data y.data rx ry hx hy) ?_
  rintro _ _ ⟨rfl,rfl⟩
  by_cases c0:x.data=y.data
  rotate_left
  ·rw [decide_eq_false c0]
   repeat (first|refine zE ?_|refine zK G G G ?_|refine zM ?_)
   exact ⟨[_],X,_,⟨rfl,trivial⟩,⟨bool_F (fun h=>c0 (by rw [h])),rfl⟩,yK.out⟩
  ·rw [decide_eq_true c0]
   repeat (first|refine zE ?_|refine zK G G G ?_|refine zM ?_)
   exact ⟨[_],X,_,⟨rfl,trivial⟩,⟨bool_T (by cases x; cases y; simp only at q0 c0; subst q0 c0; rfl),rfl⟩,yK.out⟩
theorem sameKpt1_spec (w0:World) (X:Hp) (x y:Kpt) (e f:List Value) (he:Rep.rd w0 X x e) (hf:Rep.rd w0 X y f) (hx:x.data.length≤1000000000) (hy:y.data.length≤1000000000) :
  Spec Tryz.prog w0 149 [.agg e.toArray,.agg f.toArray] X (fun r h'=>r=.bool (decide (x=y))∧X=h'):=by
 obtain ⟨a,c,rfl,rx⟩:=he
 obtain ⟨a2,c2,rfl,ry⟩:=hf
 refine zN Tryz.func149 G Tryz.ntmps149 Tryz.results149 G fun fr=>?_
 repeat (first|refine zF ?_|refine zB ?_|refine zE ?_|refine zK G G G ?_|refine zZ G G G G G ?_|refine L_ld G G G G G ?_|refine L_box G (c:=[_,_,_]) G G G (fun _=>?_))
 refine yG G G (pv_eql G G) (fun q0=>?_) (fun q0=>?_)
 rotate_left
 ·repeat (first|refine zE ?_|refine zK G G G ?_|refine L_skip G G ?_|refine zM ?_)
  exact ⟨[_],X,_,⟨rfl,trivial⟩,⟨bool_F (fun h=>q0 (by rw [h])),rfl⟩,yK.out⟩
 ·repeat (first|refine zK G G G ?_|refine zZ G G G G G ?_|refine L_ld G G G G G ?_)
  skip
  refine yG G G (pv_eql G G) (fun q1=>?_) (fun q1=>?_)
  rotate_left
  ·repeat (first|refine zE ?_|refine zK G G G ?_|refine L_skip G G ?_|refine zM ?_)
   exact ⟨[_],X,_,⟨rfl,trivial⟩,⟨bool_F (fun h=>q1 (by rw [h])),rfl⟩,yK.out⟩
  ·repeat (first|refine zK G G G ?_|refine zZ G G G G G ?_|refine L_ld G G G G G ?_)
   skip
   refine zY G G (zQ G G G) (sameB_spec w0 X _ _ x.data y.data rx ry hx hy) ?_
   rintro _ _ ⟨rfl,rfl⟩
   by_cases c0:x.data=y.data
   rotate_left
   ·rw [decide_eq_false c0]
    repeat (first|refine zE ?_|refine zK G G G ?_|refine zM ?_)
    exact ⟨[_],X,_,⟨rfl,trivial⟩,⟨bool_F (fun h=>c0 (by rw [h])),rfl⟩,yK.out⟩
   ·rw [decide_eq_true c0]
    repeat (first|refine zE ?_|refine zK G G G ?_|refine zM ?_)
    exact ⟨[_],X,_,⟨rfl,trivial⟩,⟨bool_T (by cases x; cases y; simp only at q0 q1 c0; subst q0 q1 c0; rfl),rfl⟩,yK.out⟩
theorem sameOut1_spec (w0:World) (X:Hp) (x y:Outp) (e f:List Value) (he:Rep.rd w0 X x e) (hf:Rep.rd w0 X y f) (hx:x.data.length≤1000000000) (hy:y.data.length≤1000000000) :
  Spec Tryz.prog w0 150 [.agg e.toArray,.agg f.toArray] X (fun r h'=>r=.bool (decide (x=y))∧X=h'):=by
 obtain ⟨a,c,rfl,rx⟩:=he
 obtain ⟨a2,c2,rfl,ry⟩:=hf
 refine zN Tryz.func150 G Tryz.ntmps150 Tryz.results150 G fun fr=>?_
 repeat (first|refine zF ?_|refine zB ?_|refine zE ?_|refine zK G G G ?_|refine zZ G G G G G ?_|refine L_ld G G G G G ?_|refine L_box G (c:=[_,_,_,_]) G G G (fun _=>?_))
 refine yG G G (pv_eql G G) (fun q0=>?_) (fun q0=>?_)
 rotate_left
 ·repeat (first|refine zE ?_|refine zK G G G ?_|refine L_skip G G ?_|refine zM ?_)
  exact ⟨[_],X,_,⟨rfl,trivial⟩,⟨bool_F (fun h=>q0 (by rw [h])),rfl⟩,yK.out⟩
 ·repeat (first|refine zK G G G ?_|refine zZ G G G G G ?_|refine L_ld G G G G G ?_)
  skip
  refine yG G G (pv_eql G G) (fun q1=>?_) (fun q1=>?_)
  rotate_left
  ·repeat (first|refine zE ?_|refine zK G G G ?_|refine L_skip G G ?_|refine zM ?_)
   exact ⟨[_],X,_,⟨rfl,trivial⟩,⟨bool_F (fun h=>q1 (by rw [h])),rfl⟩,yK.out⟩
  ·repeat (first|refine zK G G G ?_|refine zZ G G G G G ?_|refine L_ld G G G G G ?_)
   skip
   refine yG G G (pv_eql G G) (fun q2=>?_) (fun q2=>?_)
   rotate_left
   ·repeat (first|refine zE ?_|refine zK G G G ?_|refine L_skip G G ?_|refine zM ?_)
    exact ⟨[_],X,_,⟨rfl,trivial⟩,⟨bool_F (fun h=>q2 (by rw [h])),rfl⟩,yK.out⟩
   ·repeat (first|refine zK G G G ?_|refine zZ G G G G G ?_|refine L_ld G G G G G ?_)
    skip
    refine zY G G (zQ G G G) (sameB_spec w0 X _ _ x.data y.data rx ry hx hy) ?_
    rintro _ _ ⟨rfl,rfl⟩
    by_cases c0:x.data=y.data
    rotate_left
    ·rw [decide_eq_false c0]
     repeat (first|refine zE ?_|refine zK G G G ?_|refine zM ?_)
     exact ⟨[_],X,_,⟨rfl,trivial⟩,⟨bool_F (fun h=>c0 (by rw [h])),rfl⟩,yK.out⟩
    ·rw [decide_eq_true c0]
     repeat (first|refine zE ?_|refine zK G G G ?_|refine zM ?_)
     exact ⟨[_],X,_,⟨rfl,trivial⟩,⟨bool_T (by cases x; cases y; simp only at q0 q1 q2 c0; subst q0 q1 q2 c0; rfl),rfl⟩,yK.out⟩
theorem sameRes1_spec (w0:World) (X:Hp) (x y:Res) (e f:List Value) (he:Rep.rd w0 X x e) (hf:Rep.rd w0 X y f) (hx:x.data.length≤1000000000) (hy:y.data.length≤1000000000) :
  Spec Tryz.prog w0 30 [.agg e.toArray,.agg f.toArray] X (fun r h'=>r=.bool (decide (x=y))∧X=h'):=by
 obtain ⟨a,c,rfl,rx⟩:=he
 obtain ⟨a2,c2,rfl,ry⟩:=hf
 refine zN Tryz.func30 G Tryz.ntmps30 Tryz.results30 G fun fr=>?_
 repeat (first|refine zF ?_|refine zB ?_|refine zE ?_|refine zK G G G ?_|refine zZ G G G G G ?_|refine L_ld G G G G G ?_|refine L_box G (c:=[_,_]) G G G (fun _=>?_))
 refine yG G G (pv_eql G G) (fun q0=>?_) (fun q0=>?_)
 rotate_left
 ·repeat (first|refine zE ?_|refine zK G G G ?_|refine L_skip G G ?_|refine zM ?_)
  exact ⟨[_],X,_,⟨rfl,trivial⟩,⟨bool_F (fun h=>q0 (by rw [h])),rfl⟩,yK.out⟩
 ·repeat (first|refine zK G G G ?_|refine zZ G G G G G ?_|refine L_ld G G G G G ?_)
  skip
  refine zY G G (zQ G G G) (sameB_spec w0 X _ _ x.data y.data rx ry hx hy) ?_
  rintro _ _ ⟨rfl,rfl⟩
  by_cases c0:x.data=y.data
  rotate_left
  ·rw [decide_eq_false c0]
   repeat (first|refine zE ?_|refine zK G G G ?_|refine zM ?_)
   exact ⟨[_],X,_,⟨rfl,trivial⟩,⟨bool_F (fun h=>c0 (by rw [h])),rfl⟩,yK.out⟩
  ·rw [decide_eq_true c0]
   repeat (first|refine zE ?_|refine zK G G G ?_|refine zM ?_)
   exact ⟨[_],X,_,⟨rfl,trivial⟩,⟨bool_T (by cases x; cases y; simp only at q0 c0; subst q0 c0; rfl),rfl⟩,yK.out⟩
theorem sameSes1_spec (w0:World) (X:Hp) (x y:Ses) (e f:List Value) (he:Rep.rd w0 X x e) (hf:Rep.rd w0 X y f) (hx:x.res.data.length≤1000000000) (hy:y.res.data.length≤1000000000) :
  Spec Tryz.prog w0 151 [.agg e.toArray,.agg f.toArray] X (fun r h'=>r=.bool (decide (x=y))∧X=h'):=by
 obtain ⟨a,c,rfl,rx⟩:=he
 obtain ⟨a2,c2,rfl,ry⟩:=hf
 refine zN Tryz.func151 G Tryz.ntmps151 Tryz.results151 G fun fr=>?_
 repeat (first|refine zF ?_|refine zB ?_|refine zE ?_|refine zK G G G ?_|refine zZ G G G G G ?_|refine L_ld G G G G G ?_|refine L_box G (c:=[_,_,_,_]) G G G (fun _=>?_))
 refine yG G G (pv_eql G G) (fun q0=>?_) (fun q0=>?_)
 rotate_left
 ·repeat (first|refine zE ?_|refine zK G G G ?_|refine L_skip G G ?_|refine zM ?_)
  exact ⟨[_],X,_,⟨rfl,trivial⟩,⟨bool_F (fun h=>q0 (by rw [h])),rfl⟩,yK.out⟩
 ·repeat (first|refine zK G G G ?_|refine zZ G G G G G ?_|refine L_ld G G G G G ?_)
  skip
  refine yG G G (pv_eql G G) (fun q1=>?_) (fun q1=>?_)
  rotate_left
  ·repeat (first|refine zE ?_|refine zK G G G ?_|refine L_skip G G ?_|refine zM ?_)
   exact ⟨[_],X,_,⟨rfl,trivial⟩,⟨bool_F (fun h=>q1 (by rw [h])),rfl⟩,yK.out⟩
  ·repeat (first|refine zK G G G ?_|refine zZ G G G G G ?_|refine L_ldA G (vs:=[_,_]) G G G G G ?_)
   skip
   refine zY G G (zQ G G G) (sameRes1_spec w0 X x.res y.res _ _ ⟨a,c,rfl,rx⟩ ⟨a2,c2,rfl,ry⟩ hx hy) ?_
   rintro _ _ ⟨rfl,rfl⟩
   by_cases c0:x.res=y.res
   rotate_left
   ·rw [decide_eq_false c0]
    repeat (first|refine zE ?_|refine zK G G G ?_|refine zM ?_)
    exact ⟨[_],X,_,⟨rfl,trivial⟩,⟨bool_F (fun h=>c0 (by rw [h])),rfl⟩,yK.out⟩
   ·rw [decide_eq_true c0]
    repeat (first|refine zE ?_|refine zK G G G ?_|refine zM ?_)
    exact ⟨[_],X,_,⟨rfl,trivial⟩,⟨bool_T (by cases x; cases y; simp only at q0 q1 c0; subst q0 q1 c0; rfl),rfl⟩,yK.out⟩
theorem sameBlks_spec (w0:World) (X:Hp) (v u:Value) (xs ys:List Blk) (hv:RdL w0 X v xs) (hu:RdL w0 X u ys) (hl:xs.length≤1000000000) (hl2:ys.length≤1000000000) (hd:∀ x∈xs,x.data.length≤1000000000) (hd2:∀ x∈ys,x.data.length≤1000000000) :
  Spec Tryz.prog w0 26 [v,u] X (fun r h'=>r=.bool (decide (xs=ys))∧X=h'):=by
 obtain ⟨a,c,rfl⟩:=hv.shape
 obtain ⟨a2,c2,rfl⟩:=hu.shape
 refine zN Tryz.func26 G Tryz.ntmps26 Tryz.results26 G fun fr=>?_
 repeat (first|refine zF ?_|refine zB ?_|refine zE ?_|refine zK G G G ?_|refine L_len G G G ?_)
 refine yG G G (pv_neq G G) (fun n1=>?_) (fun n1=>?_)
 ·repeat (first|refine zF ?_|refine zB ?_|refine zE ?_|refine zK G G G ?_|refine zM ?_|refine zJ G ?_)
  exact ⟨[_],X,_,⟨rfl,trivial⟩,⟨bool_F (fun h=>n1 (by rw [h])),rfl⟩,yK.out⟩
 ·have hll:xs.length=ys.length:=by omega
  repeat (first|refine zF ?_|refine zR ?_|refine zB ?_|refine zE ?_|refine zK G G G ?_|refine zP ?_|refine zI G ?_)
  refine hold_count xs.length (fun k g L=>∃ (R:Hp),g=[(0,.slice a xs.length c),(1,.slice a2 ys.length c2),(5,.int .i64 k)]∧xs.take k=ys.take k∧L=X+fr+R) _ ⟨0,rfl,by simp,(yB _).symm⟩ (by repeat (first|exact zT _|refine zO G ?_)) ?_
  rintro k g L hk ⟨R,rfl,hpre,rfl⟩
  repeat (first|refine zF ?_|refine zB ?_|refine zK G G G ?_|refine L_len G G G ?_)
  refine yG G G (pv_lss G G) (fun n2=>?_) (fun n2=>?_)
  ·have hx:k<xs.length:=by omega
   have hy:k<ys.length:=by omega
   obtain ⟨b2,o2,rfl,e,he,hat⟩:=hv.at hx
   obtain ⟨b3,o3,rfl,e',he',hat'⟩:=hu.at hy
   obtain ⟨a4,c4,rfl,_⟩:=id he
   obtain ⟨a5,c5,rfl,_⟩:=id he'
   repeat (first|refine zF ?_|refine zR ?_|refine zE ?_|refine zP ?_|refine zJ G ?_)
   refine yC [8] [0,1,2,3,4,5,6,7,8,9] (by kernel_rfl) G (by kernel_rfl) (by kernel_rfl) ?_
   repeat (first|refine yI G G G G G ?_|refine W_idx G G G (by omega) G G G ?_|refine W_atA G G (by assumption) G G G G G ?_)
   refine W_call G G G G (zQ G G G) (sameBlk1_spec w0 X xs[k] ys[k] _ _ he he' (hd _ (List.getElem_mem hx)) (hd2 _ (List.getElem_mem hy))) (Kept.all _) ?_
   rintro _ _ ⟨rfl,rfl⟩
   refine ⟨(by repeat (first|exact trivial|exact zG G (zS G)|exact zL G G G|exact zX G (by assumption) G|exact zH G (by assumption) G|exact zH G (by assumption) (by assumption)|refine ⟨?_,?_⟩)),?_⟩
   by_cases e:xs[k]=ys[k]
   ·rw [decide_eq_true e]
    repeat (first|refine yJ ?_|refine yI G G G G G ?_)
    repeat (first|refine zB ?_|refine zE ?_|refine zK G G G ?_|refine zP ?_|refine zI G ?_|refine L_add G G (by omega) (by omega) G G ?_)
    exact ⟨hx,_,(by repeat (first|exact zT _|refine zO G ?_)),_,rfl,take_more hx hy hpre e,yK.out⟩
   ·rw [decide_eq_false e]
    repeat (first|refine yJ ?_|refine yI G G G G G ?_)
    repeat (first|refine zF ?_|refine zB ?_|refine zE ?_|refine zK G G G ?_|refine zM ?_|refine zJ G ?_)
    exact ⟨[_],X,_,⟨rfl,trivial⟩,⟨bool_F (fun h=>e (by subst h; rfl)),rfl⟩,yK.out⟩
  ·repeat (first|refine zF ?_|refine yD ?_|refine zB ?_|refine zE ?_|refine zK G G G ?_|refine zM ?_|refine zI G ?_)
   rw [List.take_of_length_le (by omega),List.take_of_length_le (by omega)] at hpre
   exact ⟨[_],X,_,⟨rfl,trivial⟩,⟨bool_T hpre,rfl⟩,yK.out⟩
theorem sameWrs_spec (w0:World) (X:Hp) (v u:Value) (xs ys:List Wr) (hv:RdL w0 X v xs) (hu:RdL w0 X u ys) (hl:xs.length≤1000000000) (hl2:ys.length≤1000000000) (hd:∀ x∈xs,x.data.length≤1000000000) (hd2:∀ x∈ys,x.data.length≤1000000000) :
  Spec Tryz.prog w0 164 [v,u] X (fun r h'=>r=.bool (decide (xs=ys))∧X=h'):=by
 obtain ⟨a,c,rfl⟩:=hv.shape
 obtain ⟨a2,c2,rfl⟩:=hu.shape
 refine zN Tryz.func164 G Tryz.ntmps164 Tryz.results164 G fun fr=>?_
 repeat (first|refine zF ?_|refine zB ?_|refine zE ?_|refine zK G G G ?_|refine L_len G G G ?_)
 refine yG G G (pv_neq G G) (fun n1=>?_) (fun n1=>?_)
 ·repeat (first|refine zF ?_|refine zB ?_|refine zE ?_|refine zK G G G ?_|refine zM ?_|refine zJ G ?_)
  exact ⟨[_],X,_,⟨rfl,trivial⟩,⟨bool_F (fun h=>n1 (by rw [h])),rfl⟩,yK.out⟩
 ·have hll:xs.length=ys.length:=by omega
  repeat (first|refine zF ?_|refine zR ?_|refine zB ?_|refine zE ?_|refine zK G G G ?_|refine zP ?_|refine zI G ?_)
  refine hold_count xs.length (fun k g L=>∃ (R:Hp),g=[(0,.slice a xs.length c),(1,.slice a2 ys.length c2),(5,.int .i64 k)]∧xs.take k=ys.take k∧L=X+fr+R) _ ⟨0,rfl,by simp,(yB _).symm⟩ (by repeat (first|exact zT _|refine zO G ?_)) ?_
  rintro k g L hk ⟨R,rfl,hpre,rfl⟩
  repeat (first|refine zF ?_|refine zB ?_|refine zK G G G ?_|refine L_len G G G ?_)
  refine yG G G (pv_lss G G) (fun n2=>?_) (fun n2=>?_)
  ·have hx:k<xs.length:=by omega
   have hy:k<ys.length:=by omega
   obtain ⟨b2,o2,rfl,e,he,hat⟩:=hv.at hx
   obtain ⟨b3,o3,rfl,e',he',hat'⟩:=hu.at hy
   obtain ⟨a4,c4,rfl,_⟩:=id he
   obtain ⟨a5,c5,rfl,_⟩:=id he'
   repeat (first|refine zF ?_|refine zR ?_|refine zE ?_|refine zP ?_|refine zJ G ?_)
   refine yC [8] [0,1,2,3,4,5,6,7,8,9] (by kernel_rfl) G (by kernel_rfl) (by kernel_rfl) ?_
   repeat (first|refine yI G G G G G ?_|refine W_idx G G G (by omega) G G G ?_|refine W_atA G G (by assumption) G G G G G ?_)
   refine W_call G G G G (zQ G G G) (sameWr1_spec w0 X xs[k] ys[k] _ _ he he' (hd _ (List.getElem_mem hx)) (hd2 _ (List.getElem_mem hy))) (Kept.all _) ?_
   rintro _ _ ⟨rfl,rfl⟩
   refine ⟨(by repeat (first|exact trivial|exact zG G (zS G)|exact zL G G G|exact zX G (by assumption) G|exact zH G (by assumption) G|exact zH G (by assumption) (by assumption)|refine ⟨?_,?_⟩)),?_⟩
   by_cases e:xs[k]=ys[k]
   ·rw [decide_eq_true e]
    repeat (first|refine yJ ?_|refine yI G G G G G ?_)
    repeat (first|refine zB ?_|refine zE ?_|refine zK G G G ?_|refine zP ?_|refine zI G ?_|refine L_add G G (by omega) (by omega) G G ?_)
    exact ⟨hx,_,(by repeat (first|exact zT _|refine zO G ?_)),_,rfl,take_more hx hy hpre e,yK.out⟩
   ·rw [decide_eq_false e]
    repeat (first|refine yJ ?_|refine yI G G G G G ?_)
    repeat (first|refine zF ?_|refine zB ?_|refine zE ?_|refine zK G G G ?_|refine zM ?_|refine zJ G ?_)
    exact ⟨[_],X,_,⟨rfl,trivial⟩,⟨bool_F (fun h=>e (by subst h; rfl)),rfl⟩,yK.out⟩
  ·repeat (first|refine zF ?_|refine yD ?_|refine zB ?_|refine zE ?_|refine zK G G G ?_|refine zM ?_|refine zI G ?_)
   rw [List.take_of_length_le (by omega),List.take_of_length_le (by omega)] at hpre
   exact ⟨[_],X,_,⟨rfl,trivial⟩,⟨bool_T hpre,rfl⟩,yK.out⟩
theorem sameKpts_spec (w0:World) (X:Hp) (v u:Value) (xs ys:List Kpt) (hv:RdL w0 X v xs) (hu:RdL w0 X u ys) (hl:xs.length≤1000000000) (hl2:ys.length≤1000000000) (hd:∀ x∈xs,x.data.length≤1000000000) (hd2:∀ x∈ys,x.data.length≤1000000000) :
  Spec Tryz.prog w0 73 [v,u] X (fun r h'=>r=.bool (decide (xs=ys))∧X=h'):=by
 obtain ⟨a,c,rfl⟩:=hv.shape
 obtain ⟨a2,c2,rfl⟩:=hu.shape
 refine zN Tryz.func73 G Tryz.ntmps73 Tryz.results73 G fun fr=>?_
 repeat (first|refine zF ?_|refine zB ?_|refine zE ?_|refine zK G G G ?_|refine L_len G G G ?_)
 refine yG G G (pv_neq G G) (fun n1=>?_) (fun n1=>?_)
 ·repeat (first|refine zF ?_|refine zB ?_|refine zE ?_|refine zK G G G ?_|refine zM ?_|refine zJ G ?_)
  exact ⟨[_],X,_,⟨rfl,trivial⟩,⟨bool_F (fun h=>n1 (by rw [h])),rfl⟩,yK.out⟩
 ·have hll:xs.length=ys.length:=by omega
  repeat (first|refine zF ?_|refine zR ?_|refine zB ?_|refine zE ?_|refine zK G G G ?_|refine zP ?_|refine zI G ?_)
  refine hold_count xs.length (fun k g L=>∃ (R:Hp),g=[(0,.slice a xs.length c),(1,.slice a2 ys.length c2),(5,.int .i64 k)]∧xs.take k=ys.take k∧L=X+fr+R) _ ⟨0,rfl,by simp,(yB _).symm⟩ (by repeat (first|exact zT _|refine zO G ?_)) ?_
  rintro k g L hk ⟨R,rfl,hpre,rfl⟩
  repeat (first|refine zF ?_|refine zB ?_|refine zK G G G ?_|refine L_len G G G ?_)
  refine yG G G (pv_lss G G) (fun n2=>?_) (fun n2=>?_)
  ·have hx:k<xs.length:=by omega
   have hy:k<ys.length:=by omega
   obtain ⟨b2,o2,rfl,e,he,hat⟩:=hv.at hx
   obtain ⟨b3,o3,rfl,e',he',hat'⟩:=hu.at hy
   obtain ⟨a4,c4,rfl,_⟩:=id he
   obtain ⟨a5,c5,rfl,_⟩:=id he'
   repeat (first|refine zF ?_|refine zR ?_|refine zE ?_|refine zP ?_|refine zJ G ?_)
   refine yC [8] [0,1,2,3,4,5,6,7,8,9] (by kernel_rfl) G (by kernel_rfl) (by kernel_rfl) ?_
   repeat (first|refine yI G G G G G ?_|refine W_idx G G G (by omega) G G G ?_|refine W_atA G G (by assumption) G G G G G ?_)
   refine W_call G G G G (zQ G G G) (sameKpt1_spec w0 X xs[k] ys[k] _ _ he he' (hd _ (List.getElem_mem hx)) (hd2 _ (List.getElem_mem hy))) (Kept.all _) ?_
   rintro _ _ ⟨rfl,rfl⟩
   refine ⟨(by repeat (first|exact trivial|exact zG G (zS G)|exact zL G G G|exact zX G (by assumption) G|exact zH G (by assumption) G|exact zH G (by assumption) (by assumption)|refine ⟨?_,?_⟩)),?_⟩
   by_cases e:xs[k]=ys[k]
   ·rw [decide_eq_true e]
    repeat (first|refine yJ ?_|refine yI G G G G G ?_)
    repeat (first|refine zB ?_|refine zE ?_|refine zK G G G ?_|refine zP ?_|refine zI G ?_|refine L_add G G (by omega) (by omega) G G ?_)
    exact ⟨hx,_,(by repeat (first|exact zT _|refine zO G ?_)),_,rfl,take_more hx hy hpre e,yK.out⟩
   ·rw [decide_eq_false e]
    repeat (first|refine yJ ?_|refine yI G G G G G ?_)
    repeat (first|refine zF ?_|refine zB ?_|refine zE ?_|refine zK G G G ?_|refine zM ?_|refine zJ G ?_)
    exact ⟨[_],X,_,⟨rfl,trivial⟩,⟨bool_F (fun h=>e (by subst h; rfl)),rfl⟩,yK.out⟩
  ·repeat (first|refine zF ?_|refine yD ?_|refine zB ?_|refine zE ?_|refine zK G G G ?_|refine zM ?_|refine zI G ?_)
   rw [List.take_of_length_le (by omega),List.take_of_length_le (by omega)] at hpre
   exact ⟨[_],X,_,⟨rfl,trivial⟩,⟨bool_T hpre,rfl⟩,yK.out⟩
theorem sameOuts_spec (w0:World) (X:Hp) (v u:Value) (xs ys:List Outp) (hv:RdL w0 X v xs) (hu:RdL w0 X u ys) (hl:xs.length≤1000000000) (hl2:ys.length≤1000000000) (hd:∀ x∈xs,x.data.length≤1000000000) (hd2:∀ x∈ys,x.data.length≤1000000000) :
  Spec Tryz.prog w0 76 [v,u] X (fun r h'=>r=.bool (decide (xs=ys))∧X=h'):=by
 obtain ⟨a,c,rfl⟩:=hv.shape
 obtain ⟨a2,c2,rfl⟩:=hu.shape
 refine zN Tryz.func76 G Tryz.ntmps76 Tryz.results76 G fun fr=>?_
 repeat (first|refine zF ?_|refine zB ?_|refine zE ?_|refine zK G G G ?_|refine L_len G G G ?_)
 refine yG G G (pv_neq G G) (fun n1=>?_) (fun n1=>?_)
 ·repeat (first|refine zF ?_|refine zB ?_|refine zE ?_|refine zK G G G ?_|refine zM ?_|refine zJ G ?_)
  exact ⟨[_],X,_,⟨rfl,trivial⟩,⟨bool_F (fun h=>n1 (by rw [h])),rfl⟩,yK.out⟩
 ·have hll:xs.length=ys.length:=by omega
  repeat (first|refine zF ?_|refine zR ?_|refine zB ?_|refine zE ?_|refine zK G G G ?_|refine zP ?_|refine zI G ?_)
  refine hold_count xs.length (fun k g L=>∃ (R:Hp),g=[(0,.slice a xs.length c),(1,.slice a2 ys.length c2),(5,.int .i64 k)]∧xs.take k=ys.take k∧L=X+fr+R) _ ⟨0,rfl,by simp,(yB _).symm⟩ (by repeat (first|exact zT _|refine zO G ?_)) ?_
  rintro k g L hk ⟨R,rfl,hpre,rfl⟩
  repeat (first|refine zF ?_|refine zB ?_|refine zK G G G ?_|refine L_len G G G ?_)
  refine yG G G (pv_lss G G) (fun n2=>?_) (fun n2=>?_)
  ·have hx:k<xs.length:=by omega
   have hy:k<ys.length:=by omega
   obtain ⟨b2,o2,rfl,e,he,hat⟩:=hv.at hx
   obtain ⟨b3,o3,rfl,e',he',hat'⟩:=hu.at hy
   obtain ⟨a4,c4,rfl,_⟩:=id he
   obtain ⟨a5,c5,rfl,_⟩:=id he'
   repeat (first|refine zF ?_|refine zR ?_|refine zE ?_|refine zP ?_|refine zJ G ?_)
   refine yC [8] [0,1,2,3,4,5,6,7,8,9] (by kernel_rfl) G (by kernel_rfl) (by kernel_rfl) ?_
   repeat (first|refine yI G G G G G ?_|refine W_idx G G G (by omega) G G G ?_|refine W_atA G G (by assumption) G G G G G ?_)
   refine W_call G G G G (zQ G G G) (sameOut1_spec w0 X xs[k] ys[k] _ _ he he' (hd _ (List.getElem_mem hx)) (hd2 _ (List.getElem_mem hy))) (Kept.all _) ?_
   rintro _ _ ⟨rfl,rfl⟩
   refine ⟨(by repeat (first|exact trivial|exact zG G (zS G)|exact zL G G G|exact zX G (by assumption) G|exact zH G (by assumption) G|exact zH G (by assumption) (by assumption)|refine ⟨?_,?_⟩)),?_⟩
   by_cases e:xs[k]=ys[k]
   ·rw [decide_eq_true e]
    repeat (first|refine yJ ?_|refine yI G G G G G ?_)
    repeat (first|refine zB ?_|refine zE ?_|refine zK G G G ?_|refine zP ?_|refine zI G ?_|refine L_add G G (by omega) (by omega) G G ?_)
    exact ⟨hx,_,(by repeat (first|exact zT _|refine zO G ?_)),_,rfl,take_more hx hy hpre e,yK.out⟩
   ·rw [decide_eq_false e]
    repeat (first|refine yJ ?_|refine yI G G G G G ?_)
    repeat (first|refine zF ?_|refine zB ?_|refine zE ?_|refine zK G G G ?_|refine zM ?_|refine zJ G ?_)
    exact ⟨[_],X,_,⟨rfl,trivial⟩,⟨bool_F (fun h=>e (by subst h; rfl)),rfl⟩,yK.out⟩
  ·repeat (first|refine zF ?_|refine yD ?_|refine zB ?_|refine zE ?_|refine zK G G G ?_|refine zM ?_|refine zI G ?_)
   rw [List.take_of_length_le (by omega),List.take_of_length_le (by omega)] at hpre
   exact ⟨[_],X,_,⟨rfl,trivial⟩,⟨bool_T hpre,rfl⟩,yK.out⟩
theorem sameSess_spec (w0:World) (X:Hp) (v u:Value) (xs ys:List Ses) (hv:RdL w0 X v xs) (hu:RdL w0 X u ys) (hl:xs.length≤1000000000) (hl2:ys.length≤1000000000) (hd:∀ x∈xs,x.res.data.length≤1000000000) (hd2:∀ x∈ys,x.res.data.length≤1000000000) :
  Spec Tryz.prog w0 77 [v,u] X (fun r h'=>r=.bool (decide (xs=ys))∧X=h'):=by
 obtain ⟨a,c,rfl⟩:=hv.shape
 obtain ⟨a2,c2,rfl⟩:=hu.shape
 refine zN Tryz.func77 G Tryz.ntmps77 Tryz.results77 G fun fr=>?_
 repeat (first|refine zF ?_|refine zB ?_|refine zE ?_|refine zK G G G ?_|refine L_len G G G ?_)
 refine yG G G (pv_neq G G) (fun n1=>?_) (fun n1=>?_)
 ·repeat (first|refine zF ?_|refine zB ?_|refine zE ?_|refine zK G G G ?_|refine zM ?_|refine zJ G ?_)
  exact ⟨[_],X,_,⟨rfl,trivial⟩,⟨bool_F (fun h=>n1 (by rw [h])),rfl⟩,yK.out⟩
 ·have hll:xs.length=ys.length:=by omega
  repeat (first|refine zF ?_|refine zR ?_|refine zB ?_|refine zE ?_|refine zK G G G ?_|refine zP ?_|refine zI G ?_)
  refine hold_count xs.length (fun k g L=>∃ (R:Hp),g=[(0,.slice a xs.length c),(1,.slice a2 ys.length c2),(5,.int .i64 k)]∧xs.take k=ys.take k∧L=X+fr+R) _ ⟨0,rfl,by simp,(yB _).symm⟩ (by repeat (first|exact zT _|refine zO G ?_)) ?_
  rintro k g L hk ⟨R,rfl,hpre,rfl⟩
  repeat (first|refine zF ?_|refine zB ?_|refine zK G G G ?_|refine L_len G G G ?_)
  refine yG G G (pv_lss G G) (fun n2=>?_) (fun n2=>?_)
  ·have hx:k<xs.length:=by omega
   have hy:k<ys.length:=by omega
   obtain ⟨b2,o2,rfl,e,he,hat⟩:=hv.at hx
   obtain ⟨b3,o3,rfl,e',he',hat'⟩:=hu.at hy
   obtain ⟨a4,c4,rfl,_⟩:=id he
   obtain ⟨a5,c5,rfl,_⟩:=id he'
   repeat (first|refine zF ?_|refine zR ?_|refine zE ?_|refine zP ?_|refine zJ G ?_)
   refine yC [8] [0,1,2,3,4,5,6,7,8,9] (by kernel_rfl) G (by kernel_rfl) (by kernel_rfl) ?_
   repeat (first|refine yI G G G G G ?_|refine W_idx G G G (by omega) G G G ?_|refine W_atA G G (by assumption) G G G G G ?_)
   refine W_call G G G G (zQ G G G) (sameSes1_spec w0 X xs[k] ys[k] _ _ he he' (hd _ (List.getElem_mem hx)) (hd2 _ (List.getElem_mem hy))) (Kept.all _) ?_
   rintro _ _ ⟨rfl,rfl⟩
   refine ⟨(by repeat (first|exact trivial|exact zG G (zS G)|exact zL G G G|exact zX G (by assumption) G|exact zH G (by assumption) G|exact zH G (by assumption) (by assumption)|refine ⟨?_,?_⟩)),?_⟩
   by_cases e:xs[k]=ys[k]
   ·rw [decide_eq_true e]
    repeat (first|refine yJ ?_|refine yI G G G G G ?_)
    repeat (first|refine zB ?_|refine zE ?_|refine zK G G G ?_|refine zP ?_|refine zI G ?_|refine L_add G G (by omega) (by omega) G G ?_)
    exact ⟨hx,_,(by repeat (first|exact zT _|refine zO G ?_)),_,rfl,take_more hx hy hpre e,yK.out⟩
   ·rw [decide_eq_false e]
    repeat (first|refine yJ ?_|refine yI G G G G G ?_)
    repeat (first|refine zF ?_|refine zB ?_|refine zE ?_|refine zK G G G ?_|refine zM ?_|refine zJ G ?_)
    exact ⟨[_],X,_,⟨rfl,trivial⟩,⟨bool_F (fun h=>e (by subst h; rfl)),rfl⟩,yK.out⟩
  ·repeat (first|refine zF ?_|refine yD ?_|refine zB ?_|refine zE ?_|refine zK G G G ?_|refine zM ?_|refine zI G ?_)
   rw [List.take_of_length_le (by omega),List.take_of_length_le (by omega)] at hpre
   exact ⟨[_],X,_,⟨rfl,trivial⟩,⟨bool_T hpre,rfl⟩,yK.out⟩
theorem samePrp1_spec (w0:World) (X:Hp) (x y:Prp) (e f:List Value) (he:Rep.rd w0 X x e) (hf:Rep.rd w0 X y f) (hx:x.parts.length≤1000000000∧x.writes.length≤1000000000∧∀ w∈x.writes,w.data.length≤1000000000) (hy:y.parts.length≤1000000000∧y.writes.length≤1000000000∧∀ w∈y.writes,w.data.length≤1000000000) :
  Spec Tryz.prog w0 105 [.agg e.toArray,.agg f.toArray] X (fun r h'=>r=.bool (decide (x=y))∧X=h'):=by
 obtain ⟨a,c,a2,c2,rfl,rx,rx2⟩:=he
 obtain ⟨a3,c3,a4,c4,rfl,ry,ry2⟩:=hf
 refine zN Tryz.func105 G Tryz.ntmps105 Tryz.results105 G fun fr=>?_
 repeat (first|refine zF ?_|refine zB ?_|refine zE ?_|refine zK G G G ?_|refine zZ G G G G G ?_|refine L_ld G G G G G ?_|refine L_box G (c:=[_,_,_,_,_,_,_]) G G G (fun _=>?_))
 refine yG G G (pv_eql G G) (fun q0=>?_) (fun q0=>?_)
 rotate_left
 ·repeat (first|refine zE ?_|refine zK G G G ?_|refine L_skip G G ?_|refine zM ?_)
  exact ⟨[_],X,_,⟨rfl,trivial⟩,⟨bool_F (fun h=>q0 (by rw [h])),rfl⟩,yK.out⟩
 ·repeat (first|refine zK G G G ?_|refine zZ G G G G G ?_|refine L_ld G G G G G ?_)
  skip
  refine yG G G (pv_eql G G) (fun q1=>?_) (fun q1=>?_)
  rotate_left
  ·repeat (first|refine zE ?_|refine zK G G G ?_|refine L_skip G G ?_|refine zM ?_)
   exact ⟨[_],X,_,⟨rfl,trivial⟩,⟨bool_F (fun h=>q1 (by rw [h])),rfl⟩,yK.out⟩
  ·repeat (first|refine zK G G G ?_|refine zZ G G G G G ?_|refine L_ld G G G G G ?_)
   skip
   refine yG G G (pv_eql G G) (fun q2=>?_) (fun q2=>?_)
   rotate_left
   ·repeat (first|refine zE ?_|refine zK G G G ?_|refine L_skip G G ?_|refine zM ?_)
    exact ⟨[_],X,_,⟨rfl,trivial⟩,⟨bool_F (fun h=>q2 (by rw [h])),rfl⟩,yK.out⟩
   ·repeat (first|refine zK G G G ?_|refine zZ G G G G G ?_|refine L_ld G G G G G ?_)
    skip
    refine yG G G (pv_eql G G) (fun q3=>?_) (fun q3=>?_)
    rotate_left
    ·repeat (first|refine zE ?_|refine zK G G G ?_|refine L_skip G G ?_|refine zM ?_)
     exact ⟨[_],X,_,⟨rfl,trivial⟩,⟨bool_F (fun h=>q3 (by rw [h])),rfl⟩,yK.out⟩
    ·repeat (first|refine zK G G G ?_|refine zZ G G G G G ?_|refine L_ld G G G G G ?_)
     skip
     refine yG G G (pv_eql G G) (fun q4=>?_) (fun q4=>?_)
     rotate_left
     ·repeat (first|refine zE ?_|refine zK G G G ?_|refine L_skip G G ?_|refine zM ?_)
      exact ⟨[_],X,_,⟨rfl,trivial⟩,⟨bool_F (fun h=>q4 (by rw [h])),rfl⟩,yK.out⟩
     ·repeat (first|refine zK G G G ?_|refine zZ G G G G G ?_|refine L_ld G G G G G ?_)
      skip
      refine zY G G (zQ G G G) (sameI_spec w0 X _ _ x.parts y.parts rx ry hx.1 hy.1) ?_
      rintro _ _ ⟨rfl,rfl⟩
      by_cases c0:x.parts=y.parts
      rotate_left
      ·rw [decide_eq_false c0]
       repeat (first|refine zE ?_|refine zK G G G ?_|refine L_skip G G ?_|refine zM ?_)
       exact ⟨[_],X,_,⟨rfl,trivial⟩,⟨bool_F (fun h=>c0 (by rw [h])),rfl⟩,yK.out⟩
      ·rw [decide_eq_true c0]
       repeat (first|refine zK G G G ?_|refine zZ G G G G G ?_|refine L_ld G G G G G ?_)
       skip
       refine zY G G (zQ G G G) (sameWrs_spec w0 X _ _ x.writes y.writes rx2 ry2 hx.2.1 hy.2.1 hx.2.2 hy.2.2) ?_
       rintro _ _ ⟨rfl,rfl⟩
       by_cases c1:x.writes=y.writes
       rotate_left
       ·rw [decide_eq_false c1]
        repeat (first|refine zE ?_|refine zK G G G ?_|refine zM ?_)
        exact ⟨[_],X,_,⟨rfl,trivial⟩,⟨bool_F (fun h=>c1 (by rw [h])),rfl⟩,yK.out⟩
       ·rw [decide_eq_true c1]
        repeat (first|refine zE ?_|refine zK G G G ?_|refine zM ?_)
        exact ⟨[_],X,_,⟨rfl,trivial⟩,⟨bool_T (by cases x; cases y; simp only at q0 q1 q2 q3 q4 c0 c1; subst q0 q1 q2 q3 q4 c0 c1; rfl),rfl⟩,yK.out⟩
theorem samePrps_spec (w0:World) (X:Hp) (v u:Value) (xs ys:List Prp) (hv:RdL w0 X v xs) (hu:RdL w0 X u ys) (hl:xs.length≤1000000000) (hl2:ys.length≤1000000000) (hd:∀ x∈xs,x.parts.length≤1000000000∧x.writes.length≤1000000000∧∀ w∈x.writes,w.data.length≤1000000000) (hd2:∀ x∈ys,x.parts.length≤1000000000∧x.writes.length≤1000000000∧∀ w∈x.writes,w.data.length≤1000000000) :
  Spec Tryz.prog w0 75 [v,u] X (fun r h'=>r=.bool (decide (xs=ys))∧X=h'):=by
 obtain ⟨a,c,rfl⟩:=hv.shape
 obtain ⟨a2,c2,rfl⟩:=hu.shape
 refine zN Tryz.func75 G Tryz.ntmps75 Tryz.results75 G fun fr=>?_
 repeat (first|refine zF ?_|refine zB ?_|refine zE ?_|refine zK G G G ?_|refine L_len G G G ?_)
 refine yG G G (pv_neq G G) (fun n1=>?_) (fun n1=>?_)
 ·repeat (first|refine zF ?_|refine zB ?_|refine zE ?_|refine zK G G G ?_|refine zM ?_|refine zJ G ?_)
  exact ⟨[_],X,_,⟨rfl,trivial⟩,⟨bool_F (fun h=>n1 (by rw [h])),rfl⟩,yK.out⟩
 ·have hll:xs.length=ys.length:=by omega
  repeat (first|refine zF ?_|refine zR ?_|refine zB ?_|refine zE ?_|refine zK G G G ?_|refine zP ?_|refine zI G ?_)
  refine hold_count xs.length (fun k g L=>∃ (R:Hp),g=[(0,.slice a xs.length c),(1,.slice a2 ys.length c2),(5,.int .i64 k)]∧xs.take k=ys.take k∧L=X+fr+R) _ ⟨0,rfl,by simp,(yB _).symm⟩ (by repeat (first|exact zT _|refine zO G ?_)) ?_
  rintro k g L hk ⟨R,rfl,hpre,rfl⟩
  repeat (first|refine zF ?_|refine zB ?_|refine zK G G G ?_|refine L_len G G G ?_)
  refine yG G G (pv_lss G G) (fun n2=>?_) (fun n2=>?_)
  ·have hx:k<xs.length:=by omega
   have hy:k<ys.length:=by omega
   obtain ⟨b2,o2,rfl,e,he,hat⟩:=hv.at hx
   obtain ⟨b3,o3,rfl,e',he',hat'⟩:=hu.at hy
   obtain ⟨a4,c4,a6,c6,rfl,_,_⟩:=id he
   obtain ⟨a5,c5,a7,c7,rfl,_,_⟩:=id he'
   repeat (first|refine zF ?_|refine zR ?_|refine zE ?_|refine zP ?_|refine zJ G ?_)
   refine yC [8] [0,1,2,3,4,5,6,7,8,9] (by kernel_rfl) G (by kernel_rfl) (by kernel_rfl) ?_
   repeat (first|refine yI G G G G G ?_|refine W_idx G G G (by omega) G G G ?_|refine W_atA G G (by assumption) G G G G G ?_)
   refine W_call G G G G (zQ G G G) (samePrp1_spec w0 X xs[k] ys[k] _ _ he he' (hd _ (List.getElem_mem hx)) (hd2 _ (List.getElem_mem hy))) (Kept.all _) ?_
   rintro _ _ ⟨rfl,rfl⟩
   refine ⟨(by repeat (first|exact trivial|exact zG G (zS G)|exact zL G G G|exact zX G (by assumption) G|exact zH G (by assumption) G|exact zH G (by assumption) (by assumption)|refine ⟨?_,?_⟩)),?_⟩
   by_cases e:xs[k]=ys[k]
   ·rw [decide_eq_true e]
    repeat (first|refine yJ ?_|refine yI G G G G G ?_)
    repeat (first|refine zB ?_|refine zE ?_|refine zK G G G ?_|refine zP ?_|refine zI G ?_|refine L_add G G (by omega) (by omega) G G ?_)
    exact ⟨hx,_,(by repeat (first|exact zT _|refine zO G ?_)),_,rfl,take_more hx hy hpre e,yK.out⟩
   ·rw [decide_eq_false e]
    repeat (first|refine yJ ?_|refine yI G G G G G ?_)
    repeat (first|refine zF ?_|refine zB ?_|refine zE ?_|refine zK G G G ?_|refine zM ?_|refine zJ G ?_)
    exact ⟨[_],X,_,⟨rfl,trivial⟩,⟨bool_F (fun h=>e (by subst h; rfl)),rfl⟩,yK.out⟩
  ·repeat (first|refine zF ?_|refine yD ?_|refine zB ?_|refine zE ?_|refine zK G G G ?_|refine zM ?_|refine zI G ?_)
   rw [List.take_of_length_le (by omega),List.take_of_length_le (by omega)] at hpre
   exact ⟨[_],X,_,⟨rfl,trivial⟩,⟨bool_T hpre,rfl⟩,yK.out⟩
end Sl
end Go.Proofs.YtpkealohodeifaaGreat
namespace Go.Proofs.YtpkealohodeifaaGreat
open Go Go.RowKit
namespace Sl
set_option maxHeartbeats 16000000
set_option maxRecDepth 4000
set_option synthInstance.maxHeartbeats 400000
set_option synthInstance.maxSize 100000
attribute [local irreducible] Hold HoldL HoldW
def SmallOp (o:Opn):Prop:=o.parts.length≤200∧o.reads.length≤200∧o.writes.length≤200∧o.data.length≤4096∧∀ w∈o.writes,w.data.length≤4096
theorem SmallOp.small {o:Opn} (h:SmallOp o):SmallO o:=⟨by have:=h.1; omega,by have:=h.2.1; omega,by have:=h.2.2.1; omega,by have:=h.2.2.2.1; omega,fun w hw=>by have:=h.2.2.2.2 w hw; omega⟩
def LenO (o:Opn):Prop:=o.parts.length≤140737488355328∧o.reads.length≤140737488355328∧o.writes.length≤140737488355328∧o.data.length≤140737488355328∧∀ w∈o.writes,w.data.length≤140737488355328
theorem bigOp_spec (w0:World) (X:Hp) (o:Opn) (e:List Value) (ho:Rep.rd w0 X o e) (hl:LenO o) :
  Spec Tryz.prog w0 37 [.agg e.toArray,.int .i64 200,.int .i64 4096] X (fun r h'=>(r=.bool true∨(r=.bool false∧SmallOp o))∧X=h'):=by
 obtain ⟨x1,y1,x2,y2,x3,y3,x4,y4,rfl,r1,r2,r3,r4⟩:=ho
 obtain ⟨l1,l2,l3,l4,l5⟩:=hl
 refine zN Tryz.func37 G Tryz.ntmps37 Tryz.results37 G fun fr=>?_
 repeat (first|refine zF ?_|refine zB ?_|refine zE ?_|refine zK G G G ?_|refine zZ G G G G G ?_|refine L_ld G G G G G ?_|refine L_len G G G ?_|refine L_box G (c:=[_,_,_,_,_,_,_,_,_,_,_,_,_,_,_,_,_]) G G G (fun _=>?_))
 rename_i b3
 refine yG G G (pv_gtr G G) (fun n1=>?_) (fun n1=>?_)
 ·repeat (first|refine zF ?_|refine zB ?_|refine zE ?_|refine zK G G G ?_|refine L_skip G G ?_|refine zM ?_|refine zJ G ?_)
  exact ⟨[_],X,_,⟨rfl,trivial⟩,⟨.inl G,rfl⟩,yK.out⟩
 repeat (first|refine zK G G G ?_|refine zZ G G G G G ?_|refine L_ld G G G G G ?_|refine L_len G G G ?_)
 refine yG G G (pv_gtr G G) (fun n2=>?_) (fun n2=>?_)
 ·repeat (first|refine zF ?_|refine zB ?_|refine zE ?_|refine zK G G G ?_|refine L_skip G G ?_|refine zM ?_|refine zJ G ?_)
  exact ⟨[_],X,_,⟨rfl,trivial⟩,⟨.inl G,rfl⟩,yK.out⟩
 repeat (first|refine zK G G G ?_|refine zZ G G G G G ?_|refine L_ld G G G G G ?_|refine L_len G G G ?_)
 refine yG G G (pv_gtr G G) (fun n3=>?_) (fun n3=>?_)
 ·repeat (first|refine zF ?_|refine zB ?_|refine zE ?_|refine zK G G G ?_|refine L_skip G G ?_|refine zM ?_|refine zJ G ?_)
  exact ⟨[_],X,_,⟨rfl,trivial⟩,⟨.inl G,rfl⟩,yK.out⟩
 repeat (first|refine zK G G G ?_|refine zZ G G G G G ?_|refine L_ld G G G G G ?_|refine L_len G G G ?_)
 refine yG G G (pv_gtr G G) (fun n4=>?_) (fun n4=>?_)
 ·repeat (first|refine zF ?_|refine zB ?_|refine zE ?_|refine zK G G G ?_|refine zM ?_|refine zJ G ?_)
  exact ⟨[_],X,_,⟨rfl,trivial⟩,⟨.inl G,rfl⟩,yK.out⟩
 repeat (first|refine zF ?_|refine zR ?_|refine zB ?_|refine zE ?_|refine zK G G G ?_|refine zP ?_|refine zI G ?_)
 refine hold_count o.writes.length (fun k g L=>∃ (m:Int) (R:Hp),g=[(2,.int .i64 4096),(3,.pointer (some ⟨b3,0,none⟩)),(7,.int .i64 m),(8,.int .i64 k)]∧0≤m∧m≤4096∧(∀ w∈o.writes.take k,w.data.length≤4096) ∧
  L=X+opC b3 o (.slice x1 o.parts.length y1) (.slice x2 o.reads.length y2) (.slice x3 o.writes.length y3) (.slice x4 o.data.length y4)+fr+R) _ ⟨0,_,rfl,by omega,by omega,by simp,yK.out⟩ (by repeat (first|exact zT _|refine zO G ?_)) ?_
 rintro k g L hk ⟨m,R,rfl,m0,m1,hpre,rfl⟩
 repeat (first|refine zF ?_|refine zB ?_|refine zK G G G ?_|refine zZ G G G G G ?_|refine L_ld G G G G G ?_|refine L_len G G G ?_)
 refine yG G G (pv_lss G G) (fun n5=>?_) (fun n5=>?_)
 ·have hx:k<o.writes.length:=by omega
  have hlw:=l5 _ (List.getElem_mem hx)
  obtain ⟨bw,ow,rfl,ew,⟨a3,c3,rfl,_⟩,hat⟩:=r3.at hx
  repeat (first|refine zF ?_|refine zR ?_|refine zB ?_|refine zE ?_|refine zK G G G ?_|refine zZ G G G G G ?_|refine L_ld G G G G G ?_|refine L_len G G G ?_|refine zP ?_|refine zJ G ?_|refine L_add G G (by omega) (by omega) G G ?_|refine L_idx G G (by omega) G G ?_|refine L_atf G (by assumption) G G G G ?_)
  refine yH G G (pv_min2 G G) ?_
  repeat (first|refine zF ?_|refine zB ?_|refine zE ?_|refine zK G G G ?_|refine L_add G G (by omega) (by omega) G G ?_)
  refine yG G G (pv_gtr G G) (fun n6=>?_) (fun n6=>?_)
  ·repeat (first|refine zF ?_|refine zB ?_|refine zE ?_|refine zK G G G ?_|refine zM ?_|refine zJ G ?_)
   exact ⟨[_],X,_,⟨rfl,trivial⟩,⟨.inl G,rfl⟩,yK.out⟩
  ·repeat (first|refine zB ?_|refine zE ?_|refine zK G G G ?_|refine zP ?_|refine zI G ?_|refine L_add G G (by omega) (by omega) G G ?_)
   exact ⟨hx,_,(by repeat (first|exact zT _|refine zO G ?_)),_,_,rfl,by omega,by omega,all_take_succ' hx hpre (by omega),yK.out⟩
 ·rw [List.take_of_length_le (by omega)] at hpre
  repeat (first|refine zF ?_|refine yD ?_|refine zB ?_|refine zE ?_|refine zK G G G ?_|refine zM ?_|refine zI G ?_)
  exact ⟨[_],X,_,⟨rfl,trivial⟩,⟨.inr ⟨rfl,by omega,by omega,by omega,by omega,hpre⟩,rfl⟩,yK.out⟩
theorem big_spec (w0:World) (X:Hp) (v:Value) (l:List Opn) (hv:RdL w0 X v l) (hl:l.length≤17592186044416) (hlo:∀ o∈l,LenO o) :
  Spec Tryz.prog w0 22 [v] X (fun r h'=>(r=.bool true∨(r=.bool false∧l.length≤150∧∀ o∈l,SmallOp o))∧X=h'):=by
 obtain ⟨a,c,rfl⟩:=hv.shape
 refine zN Tryz.func22 G Tryz.ntmps22 Tryz.results22 G fun fr=>?_
 repeat (first|refine zF ?_|refine zB ?_|refine zE ?_|refine zK G G G ?_|refine L_len G G G ?_)
 refine yG G G (pv_gtr G G) (fun n1=>?_) (fun n1=>?_)
 ·repeat (first|refine zF ?_|refine zB ?_|refine zE ?_|refine zK G G G ?_|refine zM ?_|refine zJ G ?_)
  exact ⟨[_],X,_,⟨rfl,trivial⟩,⟨.inl G,rfl⟩,yK.out⟩
 ·repeat (first|refine zF ?_|refine zR ?_|refine zB ?_|refine zE ?_|refine zK G G G ?_|refine zP ?_|refine zI G ?_)
  refine hold_count l.length (fun k g L=>∃ (R:Hp),g=[(0,.slice a l.length c),(3,.int .i64 k)]∧(∀ o∈l.take k,SmallOp o)∧L=X+fr+R) _ ⟨0,rfl,by simp,(yB _).symm⟩ (by repeat (first|exact zT _|refine zO G ?_)) ?_
  rintro k g L hk ⟨R,rfl,hpre,rfl⟩
  repeat (first|refine zF ?_|refine zB ?_|refine zK G G G ?_|refine L_len G G G ?_)
  refine yG G G (pv_lss G G) (fun n2=>?_) (fun n2=>?_)
  ·have hx:k<l.length:=by omega
   obtain ⟨b2,o2,rfl,e,he,hat⟩:=hv.at hx
   have hb:=bigOp_spec w0 X l[k] e he (hlo _ (List.getElem_mem hx))
   obtain ⟨x1,y1,x2,y2,x3,y3,x4,y4,rfl,_⟩:=id he
   repeat (first|refine zF ?_|refine zR ?_|refine zB ?_|refine zE ?_|refine zK G G G ?_|refine zP ?_|refine zJ G ?_|refine L_idx G G (by omega) G G ?_|refine L_atA G (by assumption) G G G G ?_)
   refine zY G G (zQ G G G) hb ?_
   rintro _ _ ⟨rfl|⟨rfl,hs⟩,rfl⟩
   ·repeat (first|refine zF ?_|refine zB ?_|refine zE ?_|refine zK G G G ?_|refine zM ?_|refine zJ G ?_)
    exact ⟨[_],X,_,⟨rfl,trivial⟩,⟨.inl G,rfl⟩,yK.out⟩
   ·repeat (first|refine zB ?_|refine zE ?_|refine zK G G G ?_|refine zP ?_|refine zI G ?_|refine L_add G G (by omega) (by omega) G G ?_)
    exact ⟨hx,_,(by repeat (first|exact zT _|refine zO G ?_)),_,rfl,all_take_succ' hx hpre hs,yK.out⟩
  ·rw [List.take_of_length_le (by omega)] at hpre
   repeat (first|refine zF ?_|refine yD ?_|refine zB ?_|refine zE ?_|refine zK G G G ?_|refine zM ?_|refine zI G ?_)
   exact ⟨[_],X,_,⟨rfl,trivial⟩,⟨.inr ⟨rfl,by omega,hpre⟩,rfl⟩,yK.out⟩
def newS (lo hi ep:Int):Shd:=⟨lo,hi,ep,[],[],[],[],[],[],[]⟩
def FirstP (lo hi ep:Int):Prop:=0≤lo∧lo≤hi∧hi≤64∧0≤ep∧ep≤1099511627776
abbrev nils :Value:=.slice none 0 0
theorem first22_spec (w0:World) (lo hi ep:Int):Spec Tryz.prog w0 21 [.int .i64 lo,.int .i64 hi,.int .i64 ep] 0
  (fun r h'=>(∃ q,r=.tuple #[.agg (cellsS (newS lo hi ep) nils nils nils nils nils nils nils).toArray,.bool q]∧(q=true→FirstP lo hi ep))∧0=h'):=by
 refine zN Tryz.func21 G Tryz.ntmps21 Tryz.results21 G fun fr=>?_
 repeat' (first|refine zF ?_|refine zB ?_|refine zE ?_|refine zK G G G ?_|refine L_skip G G ?_|refine zM ?_|refine L_build (vs:=[_,_,_]) (cells:=[_,_,_,_,_,_,_,_,_,_]) G G G G ?_|refine L_stA G (vs:=[_,_,_,_,_,_,_,_,_,_]) G G G G (c':=[_,_,_,_,_,_,_,_,_,_]) G G ?_|refine L_alloc (c:=[_,_,_,_,_,_,_,_,_,_]) G G G (fun _=>?_)|refine yG G G (pv_leq G G) (fun _=>?_) (fun _=>?_)|refine yG G G (pv_geq G G) (fun _=>?_) (fun _=>?_)|exact ⟨[_,_],0,_,⟨⟨_,rfl,zL G G G⟩,rfl,trivial⟩,⟨⟨_,rfl,by first|exact fun _=>⟨by omega,by omega,by omega,by omega,by omega⟩|exact fun h=>Bool.noConfusion h⟩,rfl⟩,yK.out⟩|done)
theorem newS_good {lo hi ep:Int} (h:FirstP lo hi ep):Good 0 (newS lo hi ep):=by
 obtain ⟨h1,h2,h3,h4,h5⟩:=h
 exact ⟨⟨okB_nil,⟨by simp [newS],by simp [newS]⟩,safe_nil,by simp [newS,Rises],by simp [newS]⟩,⟨by simp [newS],by simp [newS],by simp [newS],by simp [newS],by simp [newS]⟩,⟨h1,h2,h3⟩,⟨h4,h5⟩,by simp [newS],by simp [newS],by simp [newS],by simp [newS],by simp [newS],by simp [newS],by simp [newS],by simp [newS],by simp [newS],by simp [newS]⟩
theorem newS_rd (w0:World) (X:Hp) (lo hi ep:Int):RdShd w0 X (newS lo hi ep) (cellsS (newS lo hi ep) nils nils nils nils nils nils nils) :=
 ⟨none,0,none,0,none,0,none,0,none,0,none,0,none,0,rfl,RdL.nil _ _ _,RdL.nil _ _ _,RdL.nil _ _ _,RdL.nil _ _ _,RdL.nil _ _ _,RdL.nil _ _ _,RdL.nil _ _ _⟩
theorem one22_spec (w0:World) (c:Int) (h0:0≤c) (h1:c≤1000):Spec Tryz.prog w0 41 [.int .i64 c] 0 (fun r h'=>r=.int .i64 (c*1048576+1)∧0=h'):=by
 refine zN Tryz.func41 G Tryz.ntmps41 Tryz.results41 G fun fr=>?_
 repeat (first|refine zF ?_|refine zB ?_|refine zE ?_|refine zK G G G ?_)
 refine yH G G (pv_shl G G (by decide)) ?_
 rw [show IntKind.i64.wrap (c*2 ^ (min ((20:Int).toNat) IntKind.i64.bits))=c*1048576 by
  rw [show (2:Int) ^ (min ((20:Int).toNat) IntKind.i64.bits)=1048576 from rfl,wrap_i64_in _ (by omega) (by omega)]]
 repeat (first|refine zE ?_|refine zK G G G ?_|refine zM ?_|refine L_add G G (by omega) (by omega) G G ?_)
 exact ⟨[_],0,_,⟨rfl,trivial⟩,⟨rfl,rfl⟩,yK.out⟩
def rd0 (seq txn age block:Int):Opn:=⟨1,txn.fdiv 1048576,seq,txn,age,1,0,0,block,0,0,0,0,[],[],[],[]⟩
def wr0 (seq txn age block:Int) (b:Bt):Opn:=⟨2,txn.fdiv 1048576,seq,txn,age,1,0,0,0,0,0,0,0,[1],[],[⟨block,[b,0,0,0]⟩],[]⟩
def de0 (txn value:Int):Opn:=⟨3,0,0,txn,0,0,0,0,0,0,value,0,0,[],[],[],[]⟩
theorem read0_spec (w0:World) (seq txn age block:Int):Spec Tryz.prog w0 42 [.int .i64 seq,.int .i64 txn,.int .i64 age,.int .i64 block] 0 (fun r h'=>r=.agg (cellsO (rd0 seq txn age block) nils nils nils nils).toArray∧0=h'):=by
 refine zN Tryz.func42 G Tryz.ntmps42 Tryz.results42 G fun fr=>?_
 repeat (first|refine zF ?_|refine zB ?_|refine zE ?_|refine zK G G G ?_|refine L_alloc (c:=[_,_,_,_,_,_,_,_,_,_,_,_,_,_,_,_,_]) G G G (fun _=>?_))
 refine yH G G (pv_shr G G (by decide)) ?_
 repeat (first|refine zE ?_|refine zK G G G ?_|refine zM ?_|refine L_build (vs:=[_,_,_,_,_,_,_]) (cells:=[_,_,_,_,_,_,_,_,_,_,_,_,_,_,_,_,_]) G G G G ?_|refine L_stA G (vs:=[_,_,_,_,_,_,_,_,_,_,_,_,_,_,_,_,_]) G G G G (c':=[_,_,_,_,_,_,_,_,_,_,_,_,_,_,_,_,_]) G G ?_)
 exact ⟨[_],0,_,⟨⟨_,rfl,zL G G G⟩,trivial⟩,⟨rfl,rfl⟩,yK.out⟩
theorem decide0_spec (w0:World) (txn value:Int):Spec Tryz.prog w0 44 [.int .i64 txn,.int .i64 value] 0 (fun r h'=>r=.agg (cellsO (de0 txn value) nils nils nils nils).toArray∧0=h'):=by
 refine zN Tryz.func44 G Tryz.ntmps44 Tryz.results44 G fun fr=>?_
 repeat (first|refine zF ?_|refine zB ?_|refine zE ?_|refine zK G G G ?_|refine zM ?_|refine L_build (vs:=[_,_,_]) (cells:=[_,_,_,_,_,_,_,_,_,_,_,_,_,_,_,_,_]) G G G G ?_|refine L_stA G (vs:=[_,_,_,_,_,_,_,_,_,_,_,_,_,_,_,_,_]) G G G G (c':=[_,_,_,_,_,_,_,_,_,_,_,_,_,_,_,_,_]) G G ?_|refine L_alloc (c:=[_,_,_,_,_,_,_,_,_,_,_,_,_,_,_,_,_]) G G G (fun _=>?_))
 exact ⟨[_],0,_,⟨⟨_,rfl,zL G G G⟩,trivial⟩,⟨rfl,rfl⟩,yK.out⟩
abbrev sl1 (b n:Nat):Value:=.slice (some ⟨b,0,none⟩) n n
theorem write0_spec (w0:World) (seq txn age block:Int) (b:Bt):Spec Tryz.prog w0 43 [.int .i64 seq,.int .i64 txn,.int .i64 age,.int .i64 block,.int .u8 (b.val:Int)] 0
  (fun r h'=>∃ b1 b2 b3,r=.agg (cellsO (wr0 seq txn age block b) (sl1 b1 1) nils (sl1 b3 1) nils).toArray∧pt b1 (.cells [.int .i64 1].toArray 3 (0,0))+pt b2 (.cells [.int .u8 (b.val:Int),.int .u8 0,.int .u8 0,.int .u8 0].toArray 5 (0,0))+pt b3 (.cells [.int .i64 block,sl1 b2 4].toArray 100 (0,0))=h'):=by
 refine zN Tryz.func43 G Tryz.ntmps43 Tryz.results43 G fun fr=>?_
 repeat (first|refine zF ?_|refine zB ?_|refine zE ?_|refine zK G G G ?_|refine L_alloc (c:=[_,_,_,_,_,_,_,_,_,_,_,_,_,_,_,_,_]) G G G (fun _=>?_))
 refine yH G G (pv_shr G G (by decide)) ?_
 repeat (first|refine zE ?_|refine zK G G G ?_|refine zM ?_|refine L_build (vs:=[_,_]) (cells:=[_,_]) G G G G ?_|refine L_build (vs:=[_,_,_,_,_,_,_,_]) (cells:=[_,_,_,_,_,_,_,_,_,_,_,_,_,_,_,_,_]) G G G G ?_|refine L_stA G (vs:=[_,_,_,_,_,_,_,_,_,_,_,_,_,_,_,_,_]) G G G G (c':=[_,_,_,_,_,_,_,_,_,_,_,_,_,_,_,_,_]) G G ?_|refine L_bs (vs:=[_]) (cells:=[_]) G G G G G G (fun _=>?_)|refine L_bs (vs:=[_]) (cells:=[_,_]) G G G G G G (fun _=>?_)|refine L_bs (vs:=[_,_,_,_]) (cells:=[_,_,_,_]) G G G G G G (fun _=>?_))
 rename_i b10 b16 b19 b21
 exact ⟨[_],pt b16 (.cells [.int .i64 1].toArray 3 (0,0))+pt b19 (.cells [.int .u8 (b.val:Int),.int .u8 0,.int .u8 0,.int .u8 0].toArray 5 (0,0))+pt b21 (.cells [.int .i64 block,sl1 b19 4].toArray 100 (0,0)),_,⟨⟨_,rfl,zL G G G⟩,trivial⟩,⟨b16,b19,b21,rfl,rfl⟩,yK.out⟩
def playF (s:Shd) (l:List Opn):Shd × List Int:=l.foldl (fun a o=>((applyF a.1 o).1,a.2++[(applyF a.1 o).2.code])) (s,[])
theorem playF_succ (s:Shd) {l:List Opn} {k:Nat} (h:k<l.length):playF s (l.take (k+1))=((applyF (playF s (l.take k)).1 l[k]).1,(playF s (l.take k)).2++[(applyF (playF s (l.take k)).1 l[k]).2.code]):=by
 unfold playF; rw [List.take_succ_eq_append_getElem h,List.foldl_append]; rfl
theorem playF_good {n:Nat} {s:Shd} (h:Good n s) {l:List Opn} (hn:n+l.length≤191):∀ k,k≤l.length→Good (n+k) (playF s (l.take k)).1∧(playF s (l.take k)).2.length=k
 | 0,_=>⟨h,rfl⟩
 | k+1,hk=>by
  obtain ⟨g,hl⟩:=playF_good h hn k (by omega)
  rw [playF_succ s (show k<l.length by omega)]
  exact ⟨(applyF_good g (by omega) _).1,by simp [hl]⟩
theorem play22_spec (w0:World) (X:Hp) (s:Shd) (es:List Value) (v:Value) (l:List Opn) (n:Nat) (hs:RdShd w0 X s es) (hv:RdL w0 X v l) (hg:Good n s) (hn:n+l.length≤190) (hni:∀ o∈l,NumsIn o) (hso:∀ o∈l,SmallO o) :
  Spec Tryz.prog w0 32 [.agg es.toArray,v] X (fun r h'=>∃ (e1:List Value) (vo:Value) (D ho:Hp),r=.tuple #[.agg e1.toArray,vo]∧RdShd w0 (X+D) (playF s l).1 e1∧OwL w0 0 (playF s l).2 vo ho∧X+D+ho=h'):=by
 obtain ⟨p1,q1,p2,q2,p3,q3,p4,q4,p5,q5,p6,q6,p7,q7,rfl,_,_,_,_,_,_,_⟩:=id hs
 obtain ⟨a,c,rfl⟩:=hv.shape
 refine zN Tryz.func32 G Tryz.ntmps32 Tryz.results32 G fun fr=>?_
 repeat (first|refine zF ?_|refine zR ?_|refine zB ?_|refine zE ?_|refine zK G G G ?_|refine L_box G (c:=[_,_,_,_,_,_,_,_,_,_]) G G G (fun _=>?_)|refine L_alloc (c:=[_,_,_,_,_,_,_,_,_,_]) G G G (fun _=>?_))
 rename_i b2 b4
 refine hold_count l.length (fun k g L=>∃ (ek:List Value) (vo:Value) (D ho R:Hp),g=[(1,.slice a l.length c),(2,.pointer (some ⟨b2,0,none⟩)),(4,.pointer (some ⟨b4,0,none⟩)),(6,vo),(7,.int .i64 k)]∧RdShd w0 (X+D) (playF s (l.take k)).1 ek∧OwL w0 0 (playF s (l.take k)).2 vo ho ∧
  L=X+D+ho+pt b2 (.cells ek.toArray 33 (0,0))+pt b4 (.cells [.int .i64 0,.int .i64 0,.int .i64 0,.slice none 0 0,.slice none 0 0,.slice none 0 0,.slice none 0 0,.slice none 0 0,.slice none 0 0,.slice none 0 0].toArray 33 (0,0))+fr+R) _ ⟨_,_,0,0,_,rfl,by rw [yB]; exact hs,OwL.nil _ _,by simp only [yB]; exact yK.out⟩ (by repeat (first|exact zT _|refine zO G ?_)) ?_
 rintro k g L hk ⟨ek,vo,D,ho,R,rfl,hrk,hov,rfl⟩
 obtain ⟨g1,g2⟩:=playF_good hg (l:=l) (by omega) k hk
 obtain ⟨k1,qk1,k2,qk2,k3,qk3,k4,qk4,k5,qk5,k6,qk6,k7,qk7,rfl,_,_,_,_,_,_,_⟩:=id hrk
 repeat (first|refine zF ?_|refine zB ?_|refine zK G G G ?_|refine L_len G G G ?_)
 refine yG G G (pv_lss G G) (fun n1=>?_) (fun n1=>?_)
 ·have hx:k<l.length:=by omega
  have hsucc:=playF_succ s hx
  obtain ⟨b7,o7,rfl,e,he,hat⟩:=hv.at hx
  have happ:=apply22_spec w0 (X+D) (playF s (l.take k)).1 _ l[k] e (n+k) hrk (Rep.mono G he) g1 (by omega) (hni _ (List.getElem_mem hx)) (hso _ (List.getElem_mem hx))
  obtain ⟨x1,y1,x2,y2,x3,y3,x4,y4,rfl,_⟩:=id he
  repeat (first|refine zF ?_|refine zR ?_|refine zE ?_|refine zP ?_|refine zJ G ?_)
  refine hold_join (fun g' L'=>∃ (b8 b9:Nat) (e1 e2:List Value) (D2 h hr R:Hp),Sub g' [(1,.slice (some ⟨b7,o7,none⟩) l.length c),(2,.pointer (some ⟨b2,0,none⟩)),(4,.pointer (some ⟨b4,0,none⟩)),(6,vo),(7,.int .i64 k),(8,.pointer (some ⟨b8,0,none⟩)),(9,.pointer (some ⟨b9,0,none⟩))]∧OwShd w0 D2 (applyF (playF s (l.take k)).1 l[k]).1 e1 h∧OwR w0 (applyF (playF s (l.take k)).1 l[k]).2 (.agg e2.toArray) hr ∧
   L'=X+D+(D2+h+hr)+ho+pt b2 (.cells (cellsS (playF s (l.take k)).1 (.slice k1 (playF s (l.take k)).1.blocks.length qk1) (.slice k2 (playF s (l.take k)).1.kept.length qk2) (.slice k3 (playF s (l.take k)).1.locks.length qk3) (.slice k4 (playF s (l.take k)).1.preps.length qk4) (.slice k5 (playF s (l.take k)).1.dead.length qk5) (.slice k6 (playF s (l.take k)).1.outs.length qk6) (.slice k7 (playF s (l.take k)).1.sess.length qk7)).toArray 33 (0,0))+pt b4 (.cells [.int .i64 0,.int .i64 0,.int .i64 0,.slice none 0 0,.slice none 0 0,.slice none 0 0,.slice none 0 0,.slice none 0 0,.slice none 0 0,.slice none 0 0].toArray 33 (0,0))+pt b8 (.cells e1.toArray 33 (0,0))+pt b9 (.cells e2.toArray 51 (0,0))+fr+R) ?_ ?_
  ·refine hold_drawV2 [5,9,10,11,12] [0,1,2,3,4,5,6,7,8] [10,11,12] [9,11,12] 9 8 [.int .i64 0,.int .i64 0,.int .i64 0,.slice none 0 0,.slice none 0 0,.slice none 0 0,.slice none 0 0,.slice none 0 0,.slice none 0 0,.slice none 0 0] 33 10 9 [.int .i64 0,.slice none 0 0] 51 (by kernel_rfl) G G (by kernel_rfl) (by kernel_rfl) (by kernel_rfl) (by kernel_rfl) (by kernel_rfl) (by kernel_rfl) ?_
   repeat (first|refine V2_of G G G G G G G G G G G ?_|refine V2_pure G (pv_indexAddr G G (by omega)) G G G G G G G G G ?_|refine V2_load G (yF G) (zL (vs:=[_,_,_,_,_,_,_,_,_,_]) G G G) G G G G G G G G G ?_|refine V2_load G (yF G) (zH G (by assumption) G) G G G G G G G G G ?_)
   refine V2_call G G G G G G G G G (zQ G G G) happ (Kept.all _) G G G G G G G G G ?_
   rintro _ _ ⟨e1,e2,D2,h,hr,rfl,how,hor,rfl⟩
   obtain ⟨m1,qm1,m2,qm2,m3,qm3,m4,qm4,m5,qm5,m6,qm6,m7,qm7,w1,w2,w3,w4,w5,w6,w7,rfl,_,_,_,_,_,_,_,rfl⟩:=id how
   obtain ⟨a8,c8,e28,_⟩:=id hor
   obtain rfl:e2=[.int .i64 (applyF (playF s (l.take k)).1 l[k]).2.code,.slice a8 (applyF (playF s (l.take k)).1 l[k]).2.data.length c8]:=by simpa using e28
   refine ⟨(by repeat (first|exact trivial|exact zG G (zS G)|exact zL G G G|exact zX G (by assumption) G|exact zH G (by assumption) G|exact zH G (by assumption) (by assumption)|refine ⟨?_,?_⟩)),?_⟩
   repeat (refine V2_of G G G G G G G G G G G ?_)
   refine V2_now G G G G G G (fun b8=>?_) (fun b9=>?_)
   ·refine V_now G G G G (fun b9=>?_)
    refine W_eff G G G G (ev_storeA (vs:=[_,_,_,_,_,_,_,_,_,_]) G G G G (c:=[_,_,_,_,_,_,_,_,_,_]) (Nat.le_of_ble_eq_true G) (c':=[_,_,_,_,_,_,_,_,_,_]) G) (Kept.all _) ?_
    rintro _ _ rfl
    refine ⟨(by repeat (first|exact trivial|exact zG G (zS G)|exact zL G G G|exact zX G (by assumption) G|exact zH G (by assumption) G|exact zH G (by assumption) (by assumption)|refine ⟨?_,?_⟩)),?_⟩
    skip
    refine W_eff G G G G (ev_storeA (vs:=[_,_]) G G G G (c:=[_,_]) (Nat.le_of_ble_eq_true G) (c':=[_,_]) G) (Kept.all _) ?_
    rintro _ _ rfl
    refine ⟨(by repeat (first|exact trivial|exact zG G (zS G)|exact zL G G G|exact zX G (by assumption) G|exact zH G (by assumption) G|exact zH G (by assumption) (by assumption)|refine ⟨?_,?_⟩)),?_⟩
    repeat (refine yJ ?_)
    exact ⟨b8,b9,_,_,D2,_,hr,_,(by repeat (first|exact zT _|refine zO G ?_)),how,hor,yK.out⟩
   ·refine V_now G G G G (fun b8=>?_)
    refine W_eff G G G G (ev_storeA (vs:=[_,_,_,_,_,_,_,_,_,_]) G G G G (c:=[_,_,_,_,_,_,_,_,_,_]) (Nat.le_of_ble_eq_true G) (c':=[_,_,_,_,_,_,_,_,_,_]) G) (Kept.all _) ?_
    rintro _ _ rfl
    refine ⟨(by repeat (first|exact trivial|exact zG G (zS G)|exact zL G G G|exact zX G (by assumption) G|exact zH G (by assumption) G|exact zH G (by assumption) (by assumption)|refine ⟨?_,?_⟩)),?_⟩
    skip
    refine W_eff G G G G (ev_storeA (vs:=[_,_]) G G G G (c:=[_,_]) (Nat.le_of_ble_eq_true G) (c':=[_,_]) G) (Kept.all _) ?_
    rintro _ _ rfl
    refine ⟨(by repeat (first|exact trivial|exact zG G (zS G)|exact zL G G G|exact zX G (by assumption) G|exact zH G (by assumption) G|exact zH G (by assumption) (by assumption)|refine ⟨?_,?_⟩)),?_⟩
    repeat (refine yJ ?_)
    exact ⟨b8,b9,_,_,D2,_,hr,_,(by repeat (first|exact zT _|refine zO G ?_)),how,hor,yK.out⟩
  ·rintro g' _ ⟨b8,b9,e1,e2,D2,h,hr,R,hsub,how,hor,rfl⟩
   refine hold_env hsub ?_
   clear hsub g'
   have hrd2:RdShd w0 (D2+h) (playF s (l.take (k+1))).1 e1:=by rw [hsucc]; exact how.rd
   obtain ⟨m1,qm1,m2,qm2,m3,qm3,m4,qm4,m5,qm5,m6,qm6,m7,qm7,w1,w2,w3,w4,w5,w6,w7,rfl,_,_,_,_,_,_,_,rfl⟩:=id how
   obtain ⟨a8,c8,e28,_⟩:=id hor
   obtain rfl:e2=[.int .i64 (applyF (playF s (l.take k)).1 l[k]).2.code,.slice a8 (applyF (playF s (l.take k)).1 l[k]).2.data.length c8]:=by simpa using e28
   repeat (first|refine zF ?_|refine zB ?_|refine zE ?_|refine zK G G G ?_|refine zZ G G G G G ?_|refine L_ld G G G G G ?_|refine L_ldA G (vs:=[_,_,_,_,_,_,_,_,_,_]) G G G G G ?_|refine L_stA G (vs:=[_,_,_,_,_,_,_,_,_,_]) G G G G (c':=[_,_,_,_,_,_,_,_,_,_]) G G ?_|refine L_bs (vs:=[_]) (cells:=[_]) G G G G G G (fun _=>?_))
   refine L_eff G G (ev_appendL (X:=0) (ns:=[(applyF (playF s (l.take k)).1 l[k]).2.code]) (h:=ho) G G hov (rd_one G) (All2.one G) G G G G G (by rw [g2,List.length_singleton]; omega)) ?_
   rintro vo' _ ⟨ho',hov',rfl⟩
   repeat (first|refine zB ?_|refine zE ?_|refine zK G G G ?_|refine L_add G G (by omega) (by omega) G G ?_)
   exact ⟨hx,_,(by repeat (first|exact zT _|refine zO G ?_)),_,vo',D+(D2+(w1+w2+w3+w4+w5+w6+w7)),ho',_,rfl,hrd2.mono (show X+(D+(D2+(w1+w2+w3+w4+w5+w6+w7)))=(D2+(w1+w2+w3+w4+w5+w6+w7))+(X+D) by ac_rfl),by rw [hsucc]; exact hov',yK.out⟩
 ·rw [List.take_of_length_le (by omega)] at hrk hov ⊢
  repeat (first|refine zF ?_|refine yD ?_|refine zB ?_|refine zE ?_|refine zK G G G ?_|refine zM ?_|refine zI G ?_|refine L_ldA G (vs:=[_,_,_,_,_,_,_,_,_,_]) G G G G G ?_|refine L_stA G (vs:=[_,_,_,_,_,_,_,_,_,_]) G G G G (c':=[_,_,_,_,_,_,_,_,_,_]) G G ?_)
  exact ⟨[_,_],X+D+ho,_,⟨⟨_,rfl,zL G G G⟩,rfl,trivial⟩,⟨_,vo,D,ho,rfl,hrk,hov,rfl⟩,yK.out⟩
end Sl
end Go.Proofs.YtpkealohodeifaaGreat
namespace Go.Proofs.YtpkealohodeifaaGreat
open Go Go.RowKit
namespace Sl
set_option maxHeartbeats 16000000
set_option maxRecDepth 4000
set_option synthInstance.maxHeartbeats 400000
set_option synthInstance.maxSize 100000
attribute [local irreducible] Hold HoldL HoldW
abbrev worksOps :List Opn:=[rd0 1 1048577 5 4,wr0 1 2097153 3 4 7,rd0 2 1048577 5 5,rd0 3 1048578 9 4,de0 2097153 1]
theorem works_codes :(playF (newS 0 10 1) worksOps).2=[0,0,24,11,0]:=by decide +kernel
theorem works_last :(applyF (playF (newS 0 10 1) worksOps).1 (rd0 4 1048578 9 4)).2=⟨0,[7,0,0,0]⟩∧(applyF (playF (newS 0 10 1) worksOps).1 (rd0 4 1048578 9 4)).1.locks.length=1:=by decide +kernel
theorem rd0_rd (w0:World) (X:Hp) (seq txn age block:Int):Rep.rd w0 X (rd0 seq txn age block) (cellsO (rd0 seq txn age block) nils nils nils nils) :=
 ⟨none,0,none,0,none,0,none,0,rfl,RdL.nil _ _ _,RdL.nil _ _ _,RdL.nil _ _ _,RdL.nil _ _ _⟩
theorem de0_rd (w0:World) (X:Hp) (txn value:Int):Rep.rd w0 X (de0 txn value) (cellsO (de0 txn value) nils nils nils nils) :=
 ⟨none,0,none,0,none,0,none,0,rfl,RdL.nil _ _ _,RdL.nil _ _ _,RdL.nil _ _ _,RdL.nil _ _ _⟩
abbrev wrH (b1 b2 b3:Nat) (block:Int) (b:Bt):Hp:=pt b1 (.cells [.int .i64 1].toArray 3 (0,0))+pt b2 (.cells [.int .u8 (b.val:Int),.int .u8 0,.int .u8 0,.int .u8 0].toArray 5 (0,0))+pt b3 (.cells [.int .i64 block,sl1 b2 4].toArray 100 (0,0))
theorem wr0_rd (w0:World) (seq txn age block:Int) (b:Bt) (b1 b2 b3:Nat):Rep.rd w0 (wrH b1 b2 b3 block b) (wr0 seq txn age block b) (cellsO (wr0 seq txn age block b) (sl1 b1 1) nils (sl1 b3 1) nils):=by
 have hp:RdL w0 (pt b1 (.cells [.int .i64 1].toArray 3 (0,0))) (sl1 b1 1) [(1:Int)]:=ints_block (b:=b1) [1] (by simp)
 have hb:OwL w0 0 [b,0,0,0] (sl1 b2 4) (pt b2 (.cells [.int .u8 (b.val:Int),.int .u8 0,.int .u8 0,.int .u8 0].toArray 5 (0,0))) :=
  OwL.block (ρ:=repB) (xs:=[b,0,0,0]) (es:=[cellB b,cellB 0,cellB 0,cellB 0]) (b:=b2) (rdB_enc.2 G) (by simp [maxLen])
 have hw:OwL w0 (pt b2 (.cells [.int .u8 (b.val:Int),.int .u8 0,.int .u8 0,.int .u8 0].toArray 5 (0,0))) [(⟨block,[b,0,0,0]⟩:Wr)] (sl1 b3 1) (pt b3 (.cells [.int .i64 block,sl1 b2 4].toArray 100 (0,0))) :=
  OwL.block (ρ:=repWr) (xs:=[(⟨block,[b,0,0,0]⟩:Wr)]) (es:=[[.int .i64 block,sl1 b2 4]]) (b:=b3) (All2.one (show Rep.rd w0 _ (⟨block,[b,0,0,0]⟩:Wr) _ from ⟨some ⟨b2,0,none⟩,4,rfl,hb.rdh⟩)) (by simp [maxLen])
 exact ⟨some ⟨b1,0,none⟩,1,none,0,some ⟨b3,0,none⟩,1,none,0,rfl,hp.mono (hadd_assoc _ _ _),RdL.nil _ _ _,hw.rd0.mono (show wrH b1 b2 b3 block b=_+pt b1 _ by unfold wrH; ac_rfl),RdL.nil _ _ _⟩
theorem works22_spec (w0:World):Spec Tryz.prog w0 10 [] 0 (fun r h'=>r=.bool true∧0=h'):=by
 have hg0:Good 0 (newS 0 10 1):=newS_good (by unfold FirstP; omega)
 refine zN Tryz.func10 G Tryz.ntmps10 Tryz.results10 G fun fr=>?_
 repeat (first|refine zF ?_|refine zB ?_|refine zE ?_|refine zK G G G ?_)
 refine zY G G (zQ G G G) (one22_spec w0 1 (by omega) (by omega)) ?_
 rintro _ _ ⟨rfl,rfl⟩
 rw [show (1:Int)*1048576+1=1048577 from rfl]
 skip
 refine zY G G (zQ G G G) (one22_spec w0 2 (by omega) (by omega)) ?_
 rintro _ _ ⟨rfl,rfl⟩
 rw [show (2:Int)*1048576+1=2097153 from rfl]
 repeat (first|refine zF ?_|refine zB ?_|refine zE ?_|refine zK G G G ?_|refine L_build (vs:=[_,_]) (cells:=[_,_,_,_,_,_,_,_,_,_]) G G G G ?_)
 refine zY G G (zQ G G G) (read0_spec w0 1 1048577 5 4) ?_
 rintro _ _ ⟨rfl,rfl⟩
 repeat (refine zK G G G ?_)
 refine zY G G (zQ G G G) (write0_spec w0 1 2097153 3 4 7) ?_
 rintro _ _ ⟨c1,c2,c3,rfl,rfl⟩
 repeat (refine zK G G G ?_)
 refine zY G G (zQ G G G) (read0_spec w0 2 1048577 5 5) ?_
 rintro _ _ ⟨rfl,rfl⟩
 repeat (first|refine zK G G G ?_|refine L_add G G (by omega) (by omega) G G ?_)
 rw [show (1048577:Int)+1=1048578 from rfl]
 refine zY G G (zQ G G G) (read0_spec w0 3 1048578 9 4) ?_
 rintro _ _ ⟨rfl,rfl⟩
 repeat (refine zK G G G ?_)
 refine zY G G (zQ G G G) (decide0_spec w0 2097153 1) ?_
 rintro _ _ ⟨rfl,rfl⟩
 repeat (refine L_bs (vs:=[_,_,_,_,_]) (cells:=[_,_,_,_,_,_,_,_,_,_,_,_,_,_,_,_,_,_,_,_,_,_,_,_,_,_,_,_,_,_,_,_,_,_,_,_,_,_,_,_,_,_,_,_,_,_,_,_,_,_,_,_,_,_,_,_,_,_,_,_,_,_,_,_,_,_,_,_,_,_,_,_,_,_,_,_,_,_,_,_,_,_,_,_,_]) G G G G G G (fun _=>?_))
 rename_i bl
 have hops:OwL w0 (wrH c1 c2 c3 4 7) worksOps (sl1 bl 5) (pt bl (.cells ([cellsO (rd0 1 1048577 5 4) nils nils nils nils,cellsO (wr0 1 2097153 3 4 7) (sl1 c1 1) nils (sl1 c3 1) nils,cellsO (rd0 2 1048577 5 5) nils nils nils nils,cellsO (rd0 3 1048578 9 4) nils nils nils nils,cellsO (de0 2097153 1) nils nils nils nils]:List (List Value)).flatten.toArray 49 (0,0))) :=
  OwL.block (ρ:=repOpn) (xs:=worksOps) (b:=bl) ⟨rd0_rd w0 _ 1 1048577 5 4,wr0_rd w0 1 2097153 3 4 7 c1 c2 c3,rd0_rd w0 _ 2 1048577 5 5,rd0_rd w0 _ 3 1048578 9 4,de0_rd w0 _ 2097153 1,trivial⟩ (by simp [maxLen])
 have hplay:=play22_spec w0 _ (newS 0 10 1) _ (sl1 bl 5) worksOps 0 (newS_rd w0 _ 0 10 1) hops.rd0 hg0 (by decide) (by unfold NumsIn; decide) (by intro o ho; simp only [worksOps,List.mem_cons,List.not_mem_nil,or_false] at ho; rcases ho with rfl|rfl|rfl|rfl|rfl<;>(unfold SmallO; simp [rd0,wr0,de0]))
 obtain ⟨g5,hcl⟩:=playF_good hg0 (l:=worksOps) (by decide) 5 (by decide)
 rw [show worksOps.take 5=worksOps from rfl] at g5 hcl
 obtain ⟨wl1,wl2⟩:=works_last
 rw [works_codes] at hplay
 generalize hpl:(playF (newS 0 10 1) worksOps).1=s5 at *
 skip
 refine holdL_heap (R:=0) (pt bl (.cells ([cellsO (rd0 1 1048577 5 4) nils nils nils nils,cellsO (wr0 1 2097153 3 4 7) (sl1 c1 1) nils (sl1 c3 1) nils,cellsO (rd0 2 1048577 5 5) nils nils nils nils,cellsO (rd0 3 1048578 9 4) nils nils nils nils,cellsO (de0 2097153 1) nils nils nils nils]:List (List Value)).flatten.toArray 49 (0,0))+(wrH c1 c2 c3 4 7+fr)) (by simp only [hzero_add,yB]; rfl) ?_
 refine zY G G (zQ G G G) hplay ?_
 rintro _ _ ⟨e1,vo,D,ho,rfl,hrd,hov,rfl⟩
 generalize wrH c1 c2 c3 4 7+pt bl (.cells ([cellsO (rd0 1 1048577 5 4) nils nils nils nils,cellsO (wr0 1 2097153 3 4 7) (sl1 c1 1) nils (sl1 c3 1) nils,cellsO (rd0 2 1048577 5 5) nils nils nils nils,cellsO (rd0 3 1048578 9 4) nils nils nils nils,cellsO (de0 2097153 1) nils nils nils nils]:List (List Value)).flatten.toArray 49 (0,0))=Y at *
 have happ:=apply22_spec w0 (Y+D) s5 e1 (rd0 4 1048578 9 4) (cellsO (rd0 4 1048578 9 4) nils nils nils nils) 5 hrd (rd0_rd w0 _ 4 1048578 9 4) (by simpa using g5) (by omega) (by unfold NumsIn; decide) (by unfold SmallO; simp [rd0])
 obtain ⟨k1,qk1,k2,qk2,k3,qk3,k4,qk4,k5,qk5,k6,qk6,k7,qk7,rfl,_,_,_,_,_,_,_⟩:=id hrd
 obtain ⟨av,cv,rfl⟩:=hov.shape
 generalize applyF s5 (rd0 4 1048578 9 4)=ap at *
 obtain ⟨s6,r6⟩:=ap
 simp only at wl1 wl2
 subst wl1
 repeat (first|refine zF ?_|refine zE ?_|refine zK G G G ?_|refine L_stA G (vs:=[_,_,_,_,_,_,_,_,_,_]) G G G G (c':=[_,_,_,_,_,_,_,_,_,_]) G G ?_|refine L_alloc (c:=[_,_,_,_,_,_,_,_,_,_]) G G G (fun _=>?_))
 rename_i b3
 refine hold_join (fun g' L'=>∃ (b8 b9:Nat) (e1 e2:List Value) (D2 h hr R:Hp),Sub g' [(4,.slice av 5 cv),(5,.pointer (some ⟨b8,0,none⟩)),(6,.pointer (some ⟨b9,0,none⟩))]∧OwShd w0 D2 s6 e1 h∧OwR w0 ⟨0,[7,0,0,0]⟩ (.agg e2.toArray) hr ∧
  L'=(D2+h+hr)+ho+pt b8 (.cells e1.toArray 33 (0,0))+pt b9 (.cells e2.toArray 51 (0,0))+fr+R) ?_ ?_
 ·refine hold_drawV2 [3,4,8,9,10,11] [0,1,2,3,4,5,6,7] [9,10,11] [8,10,11] 8 5 [.int .i64 0,.int .i64 0,.int .i64 0,.slice none 0 0,.slice none 0 0,.slice none 0 0,.slice none 0 0,.slice none 0 0,.slice none 0 0,.slice none 0 0] 33 9 6 [.int .i64 0,.slice none 0 0] 51 (by kernel_rfl) G G (by kernel_rfl) (by kernel_rfl) (by kernel_rfl) (by kernel_rfl) (by kernel_rfl) (by kernel_rfl) ?_
  repeat (first|refine V2_of G G G G G G G G G G G ?_|refine V2_pure G (pv_add G G (by omega) (by omega)) G G G G G G G G G ?_|refine V2_load G (yF G) (zL (vs:=[_,_,_,_,_,_,_,_,_,_]) G G G) G G G G G G G G G ?_)
  rw [show (1048577:Int)+1=1048578 from rfl]
  refine V2_call G G G G G G G G G (zQ G G G) (read0_spec w0 4 1048578 9 4) (Kept.all _) G G G G G G G G G ?_
  rintro _ _ ⟨rfl,rfl⟩
  refine ⟨(by repeat (first|exact trivial|exact zG G (zS G)|exact zL G G G|exact zX G (by assumption) G|exact zH G (by assumption) G|exact zH G (by assumption) (by assumption)|refine ⟨?_,?_⟩)),?_⟩
  refine V2_call G G G G G G G G G (zQ G G G) happ (Kept.all _) G G G G G G G G G ?_
  rintro _ _ ⟨e1,e2,D2,h,hr,rfl,how,hor,rfl⟩
  obtain ⟨m1,qm1,m2,qm2,m3,qm3,m4,qm4,m5,qm5,m6,qm6,m7,qm7,w1,w2,w3,w4,w5,w6,w7,rfl,_,_,_,_,_,_,_,rfl⟩:=id how
  obtain ⟨a8,c8,e28,_⟩:=id hor
  obtain rfl:e2=[.int .i64 0,.slice a8 4 c8]:=by simpa using e28
  refine ⟨(by repeat (first|exact trivial|exact zG G (zS G)|exact zL G G G|exact zX G (by assumption) G|exact zH G (by assumption) G|exact zH G (by assumption) (by assumption)|refine ⟨?_,?_⟩)),?_⟩
  repeat (refine V2_of G G G G G G G G G G G ?_)
  refine V2_now G G G G G G (fun b8=>?_) (fun b9=>?_)
  ·refine V_now G G G G (fun b9=>?_)
   refine W_eff G G G G (ev_storeA (vs:=[_,_,_,_,_,_,_,_,_,_]) G G G G (c:=[_,_,_,_,_,_,_,_,_,_]) (Nat.le_of_ble_eq_true G) (c':=[_,_,_,_,_,_,_,_,_,_]) G) (Kept.all _) ?_
   rintro _ _ rfl
   refine ⟨(by repeat (first|exact trivial|exact zG G (zS G)|exact zL G G G|exact zX G (by assumption) G|exact zH G (by assumption) G|exact zH G (by assumption) (by assumption)|refine ⟨?_,?_⟩)),?_⟩
   skip
   refine W_eff G G G G (ev_storeA (vs:=[_,_]) G G G G (c:=[_,_]) (Nat.le_of_ble_eq_true G) (c':=[_,_]) G) (Kept.all _) ?_
   rintro _ _ rfl
   refine ⟨(by repeat (first|exact trivial|exact zG G (zS G)|exact zL G G G|exact zX G (by assumption) G|exact zH G (by assumption) G|exact zH G (by assumption) (by assumption)|refine ⟨?_,?_⟩)),?_⟩
   repeat (refine yJ ?_)
   exact ⟨b8,b9,_,_,D2,_,hr,_,(by repeat (first|exact zT _|refine zO G ?_)),how,hor,yK.out⟩
  ·refine V_now G G G G (fun b8=>?_)
   refine W_eff G G G G (ev_storeA (vs:=[_,_,_,_,_,_,_,_,_,_]) G G G G (c:=[_,_,_,_,_,_,_,_,_,_]) (Nat.le_of_ble_eq_true G) (c':=[_,_,_,_,_,_,_,_,_,_]) G) (Kept.all _) ?_
   rintro _ _ rfl
   refine ⟨(by repeat (first|exact trivial|exact zG G (zS G)|exact zL G G G|exact zX G (by assumption) G|exact zH G (by assumption) G|exact zH G (by assumption) (by assumption)|refine ⟨?_,?_⟩)),?_⟩
   skip
   refine W_eff G G G G (ev_storeA (vs:=[_,_]) G G G G (c:=[_,_]) (Nat.le_of_ble_eq_true G) (c':=[_,_]) G) (Kept.all _) ?_
   rintro _ _ rfl
   refine ⟨(by repeat (first|exact trivial|exact zG G (zS G)|exact zL G G G|exact zX G (by assumption) G|exact zH G (by assumption) G|exact zH G (by assumption) (by assumption)|refine ⟨?_,?_⟩)),?_⟩
   repeat (refine yJ ?_)
   exact ⟨b8,b9,_,_,D2,_,hr,_,(by repeat (first|exact zT _|refine zO G ?_)),how,hor,yK.out⟩
 ·rintro g' _ ⟨b8,b9,e1,e2,D2,h,hr,R,hsub,how,hor,rfl⟩
  refine hold_env hsub ?_
  clear hsub g'
  obtain ⟨m1,qm1,m2,qm2,m3,qm3,m4,qm4,m5,qm5,m6,qm6,m7,qm7,w1,w2,w3,w4,w5,w6,w7,rfl,_,_,_,_,_,_,_,rfl⟩:=id how
  obtain ⟨a8,c8,e28,o8⟩:=id hor
  obtain rfl:e2=[.int .i64 0,.slice a8 4 c8]:=by simpa using e28
  repeat (first|refine zF ?_|refine zB ?_|refine zK G G G ?_|refine L_bs (vs:=[_,_,_,_,_]) (cells:=[_,_,_,_,_]) G G G G G G (fun _=>?_))
  rename_i bc
  have hsi:=sameI_spec w0 (ho+intsAt bc [0,0,24,11,0]) (.slice av 5 cv) (sl1 bc 5) [0,0,24,11,0] [0,0,24,11,0] (hov.rdh.mono G) ((ints_block (b:=bc) [0,0,24,11,0] (by simp)).mono (hadd_comm _ _)) (by simp) (by simp)
  change Spec _ _ _ _ (ho+pt bc (.cells [.int .i64 0,.int .i64 0,.int .i64 24,.int .i64 11,.int .i64 0].toArray 3 (0,0))) _ at hsi
  refine zY G G (zQ G G G) hsi ?_
  rintro _ _ ⟨rfl,rfl⟩
  rw [decide_eq_true (rfl:([0,0,24,11,0]:List Int)=[0,0,24,11,0])]
  repeat (first|refine zK G G G ?_|refine zZ G G G G G ?_|refine L_ld G G G G G ?_)
  refine L_yes G G (pv_eql G G) G ?_
  repeat (first|refine zK G G G ?_|refine zZ G G G G G ?_|refine L_ld G G G G G ?_|refine L_bs (vs:=[_,_,_,_]) (cells:=[_,_,_,_]) G G G G G G (fun _=>?_))
  rename_i bd
  have hbd:RdL w0 (pt bd (.cells [.int .u8 7,.int .u8 0,.int .u8 0,.int .u8 0].toArray 5 (0,0))) (sl1 bd 4) ([7,0,0,0]:List Bt) :=
   (OwL.block (ρ:=repB) (w0:=w0) (X:=0) (xs:=[7,0,0,0]) (es:=[cellB 7,cellB 0,cellB 0,cellB 0]) (b:=bd) (rdB_enc.2 G) (by simp [maxLen])).rdh
  refine zY G G (zQ G G G) (sameB_spec w0 (hr+pt bd (.cells [.int .u8 7,.int .u8 0,.int .u8 0,.int .u8 0].toArray 5 (0,0))) (.slice a8 4 c8) (sl1 bd 4) [7,0,0,0] [7,0,0,0] (o8.rdh.mono G) (hbd.mono (hadd_comm _ _)) (by simp) (by simp)) ?_
  rintro _ _ ⟨rfl,rfl⟩
  rw [decide_eq_true (rfl:([7,0,0,0]:List Bt)=[7,0,0,0])]
  repeat (first|refine zK G G G ?_|refine zZ G G G G G ?_|refine L_ld G G G G G ?_|refine L_len G G G ?_)
  rw [wl2]
  refine L_yes G G (pv_eql G G) G ?_
  repeat (first|refine zE ?_|refine zK G G G ?_|refine zM ?_)
  exact ⟨[_],0,_,⟨rfl,trivial⟩,⟨rfl,rfl⟩,yK.out⟩
end Sl
end Go.Proofs.YtpkealohodeifaaGreat
namespace Go.Proofs.YtpkealohodeifaaGreat
open Go Go.RowKit
namespace Sl
set_option maxHeartbeats 16000000
set_option maxRecDepth 4000
set_option synthInstance.maxHeartbeats 400000
set_option synthInstance.maxSize 100000
attribute [local irreducible] Hold HoldL HoldW
structure SizeS (s:Shd):Prop where
 bl:s.blocks.length≤1000000000∧∀ x∈s.blocks,x.data.length≤1000000000
 kp:s.kept.length≤1000000000∧∀ x∈s.kept,x.data.length≤1000000000
 lk:s.locks.length≤1000000000
 pr:s.preps.length≤1000000000∧∀ x∈s.preps,x.parts.length≤1000000000∧x.writes.length≤1000000000∧∀ w∈x.writes,w.data.length≤1000000000
 dd:s.dead.length≤1000000000
 ou:s.outs.length≤1000000000∧∀ x∈s.outs,x.data.length≤1000000000
 se:s.sess.length≤1000000000∧∀ x∈s.sess,x.res.data.length≤1000000000
theorem Good.sizeS {n:Nat} {s:Shd} (h:Good n s) (hn:n≤200):SizeS s:=by
 have hb:=rise_len (fun x:Blk=>x.no) s.blocks 0 64 (by omega) h.ok.blocks.2 (fun x hx=>⟨(h.ok.blocks.1 x hx).1,(h.ok.blocks.1 x hx).2.1⟩)
 refine ⟨⟨by omega,fun x hx=>by have:=(h.ok.blocks.1 x hx).2.2.1; omega⟩,⟨by have:=h.kl; omega,fun x hx=>by have:=h.ok.kept.1 x hx; omega⟩,by have:=h.ok.locks.few; omega,⟨by have:=h.pl; omega,fun x hx=>?_⟩,by have:=h.dl; omega,⟨by have:=h.ol; omega,fun x hx=>by have:=(h.outs x hx).2; omega⟩,⟨by have:=h.xl; omega,fun x hx=>by have:=(h.sess x hx).2.2; omega⟩⟩
 have hp:=h.prs x hx
 exact ⟨by have:=hp.parts.1; omega,by have:=hp.writes.1; omega,fun w hw=>by have:=(hp.writes.2 w hw).2; omega⟩
theorem sameShd1_spec (w0:World) (X:Hp) (x y:Shd) (e f:List Value) (he:RdShd w0 X x e) (hf:RdShd w0 X y f) (hx:SizeS x) (hy:SizeS y) :
  Spec Tryz.prog w0 14 [.agg e.toArray,.agg f.toArray] X (fun r h'=>r=.bool (decide (x=y))∧X=h'):=by
 obtain ⟨x1,qx1,x2,qx2,x3,qx3,x4,qx4,x5,qx5,x6,qx6,x7,qx7,rfl,rx1,rx2,rx3,rx4,rx5,rx6,rx7⟩:=he
 obtain ⟨y1,qy1,y2,qy2,y3,qy3,y4,qy4,y5,qy5,y6,qy6,y7,qy7,rfl,ry1,ry2,ry3,ry4,ry5,ry6,ry7⟩:=hf
 refine zN Tryz.func14 G Tryz.ntmps14 Tryz.results14 G fun fr=>?_
 repeat (first|refine zF ?_|refine zB ?_|refine zE ?_|refine zK G G G ?_|refine zZ G G G G G ?_|refine L_ld G G G G G ?_|refine L_box G (c:=[_,_,_,_,_,_,_,_,_,_]) G G G (fun _=>?_))
 refine yG G G (pv_eql G G) (fun q0=>?_) (fun q0=>?_)
 rotate_left
 ·repeat (first|refine zF ?_|refine zB ?_|refine zE ?_|refine zK G G G ?_|refine L_skip G G ?_|refine zM ?_)
  exact ⟨[_],X,_,⟨rfl,trivial⟩,⟨bool_F (fun h=>q0 (by rw [h])),rfl⟩,yK.out⟩
 ·repeat (first|refine zK G G G ?_|refine zZ G G G G G ?_|refine L_ld G G G G G ?_)
  skip
  refine yG G G (pv_eql G G) (fun q1=>?_) (fun q1=>?_)
  rotate_left
  ·repeat (first|refine zF ?_|refine zB ?_|refine zE ?_|refine zK G G G ?_|refine L_skip G G ?_|refine zM ?_)
   exact ⟨[_],X,_,⟨rfl,trivial⟩,⟨bool_F (fun h=>q1 (by rw [h])),rfl⟩,yK.out⟩
  ·repeat (first|refine zK G G G ?_|refine zZ G G G G G ?_|refine L_ld G G G G G ?_)
   skip
   refine yG G G (pv_eql G G) (fun q2=>?_) (fun q2=>?_)
   rotate_left
   ·repeat (first|refine zF ?_|refine zB ?_|refine zE ?_|refine zK G G G ?_|refine L_skip G G ?_|refine zM ?_)
    exact ⟨[_],X,_,⟨rfl,trivial⟩,⟨bool_F (fun h=>q2 (by rw [h])),rfl⟩,yK.out⟩
   ·repeat (first|refine zK G G G ?_|refine zZ G G G G G ?_|refine L_ld G G G G G ?_)
    skip
    refine zY G G (zQ G G G) (sameBlks_spec w0 X _ _ x.blocks y.blocks rx1 ry1 hx.bl.1 hy.bl.1 hx.bl.2 hy.bl.2) ?_
    rintro _ _ ⟨rfl,rfl⟩
    by_cases c0:x.blocks=y.blocks
    rotate_left
    ·rw [decide_eq_false c0]
     repeat (first|refine zF ?_|refine zB ?_|refine zE ?_|refine zK G G G ?_|refine L_skip G G ?_|refine zM ?_)
     exact ⟨[_],X,_,⟨rfl,trivial⟩,⟨bool_F (fun h=>c0 (by rw [h])),rfl⟩,yK.out⟩
    ·rw [decide_eq_true c0]
     repeat (first|refine zK G G G ?_|refine zZ G G G G G ?_|refine L_ld G G G G G ?_)
     skip
     refine zY G G (zQ G G G) (sameKpts_spec w0 X _ _ x.kept y.kept rx2 ry2 hx.kp.1 hy.kp.1 hx.kp.2 hy.kp.2) ?_
     rintro _ _ ⟨rfl,rfl⟩
     by_cases c1:x.kept=y.kept
     rotate_left
     ·rw [decide_eq_false c1]
      repeat (first|refine zF ?_|refine zB ?_|refine zE ?_|refine zK G G G ?_|refine L_skip G G ?_|refine zM ?_)
      exact ⟨[_],X,_,⟨rfl,trivial⟩,⟨bool_F (fun h=>c1 (by rw [h])),rfl⟩,yK.out⟩
     ·rw [decide_eq_true c1]
      repeat (first|refine zK G G G ?_|refine zZ G G G G G ?_|refine L_ld G G G G G ?_)
      skip
      refine zY G G (zQ G G G) (sameL_spec w0 X _ _ x.locks y.locks rx3 ry3 hx.lk hy.lk) ?_
      rintro _ _ ⟨rfl,rfl⟩
      by_cases c2:x.locks=y.locks
      rotate_left
      ·rw [decide_eq_false c2]
       repeat (first|refine zF ?_|refine zB ?_|refine zE ?_|refine zK G G G ?_|refine L_skip G G ?_|refine zM ?_)
       exact ⟨[_],X,_,⟨rfl,trivial⟩,⟨bool_F (fun h=>c2 (by rw [h])),rfl⟩,yK.out⟩
      ·rw [decide_eq_true c2]
       repeat (first|refine zF ?_|refine zB ?_|refine zE ?_|refine zK G G G ?_|refine zZ G G G G G ?_|refine L_ld G G G G G ?_)
       skip
       refine zY G G (zQ G G G) (samePrps_spec w0 X _ _ x.preps y.preps rx4 ry4 hx.pr.1 hy.pr.1 hx.pr.2 hy.pr.2) ?_
       rintro _ _ ⟨rfl,rfl⟩
       by_cases c3:x.preps=y.preps
       rotate_left
       ·rw [decide_eq_false c3]
        repeat (first|refine zE ?_|refine zK G G G ?_|refine L_skip G G ?_|refine zM ?_)
        exact ⟨[_],X,_,⟨rfl,trivial⟩,⟨bool_F (fun h=>c3 (by rw [h])),rfl⟩,yK.out⟩
       ·rw [decide_eq_true c3]
        repeat (first|refine zK G G G ?_|refine zZ G G G G G ?_|refine L_ld G G G G G ?_)
        skip
        refine zY G G (zQ G G G) (sameI_spec w0 X _ _ x.dead y.dead rx5 ry5 hx.dd hy.dd) ?_
        rintro _ _ ⟨rfl,rfl⟩
        by_cases c4:x.dead=y.dead
        rotate_left
        ·rw [decide_eq_false c4]
         repeat (first|refine zE ?_|refine zK G G G ?_|refine L_skip G G ?_|refine zM ?_)
         exact ⟨[_],X,_,⟨rfl,trivial⟩,⟨bool_F (fun h=>c4 (by rw [h])),rfl⟩,yK.out⟩
        ·rw [decide_eq_true c4]
         repeat (first|refine zK G G G ?_|refine zZ G G G G G ?_|refine L_ld G G G G G ?_)
         skip
         refine zY G G (zQ G G G) (sameOuts_spec w0 X _ _ x.outs y.outs rx6 ry6 hx.ou.1 hy.ou.1 hx.ou.2 hy.ou.2) ?_
         rintro _ _ ⟨rfl,rfl⟩
         by_cases c5:x.outs=y.outs
         rotate_left
         ·rw [decide_eq_false c5]
          repeat (first|refine zE ?_|refine zK G G G ?_|refine L_skip G G ?_|refine zM ?_)
          exact ⟨[_],X,_,⟨rfl,trivial⟩,⟨bool_F (fun h=>c5 (by rw [h])),rfl⟩,yK.out⟩
         ·rw [decide_eq_true c5]
          repeat (first|refine zK G G G ?_|refine zZ G G G G G ?_|refine L_ld G G G G G ?_)
          skip
          refine zY G G (zQ G G G) (sameSess_spec w0 X _ _ x.sess y.sess rx7 ry7 hx.se.1 hy.se.1 hx.se.2 hy.se.2) ?_
          rintro _ _ ⟨rfl,rfl⟩
          by_cases c6:x.sess=y.sess
          rotate_left
          ·rw [decide_eq_false c6]
           repeat (first|refine zE ?_|refine zK G G G ?_|refine zM ?_)
           exact ⟨[_],X,_,⟨rfl,trivial⟩,⟨bool_F (fun h=>c6 (by rw [h])),rfl⟩,yK.out⟩
          ·rw [decide_eq_true c6]
           repeat (first|refine zE ?_|refine zK G G G ?_|refine zM ?_)
           exact ⟨[_],X,_,⟨rfl,trivial⟩,⟨bool_T (by cases x; cases y; simp only at q0 q1 q2 c0 c1 c2 c3 c4 c5 c6; subst q0 q1 q2 c0 c1 c2 c3 c4 c5 c6; rfl),rfl⟩,yK.out⟩
end Sl
end Go.Proofs.YtpkealohodeifaaGreat
namespace Go.Proofs.YtpkealohodeifaaGreat
open Go Go.RowKit
namespace Sl
set_option maxHeartbeats 8000000
set_option maxRecDepth 4000
def rowR (o:Opn):List Int:=[o.txn,o.age,o.epoch,o.snap,o.lo,o.hi,o.block,o.value,o.src,o.dst]
def fieldsR (k:Int):List Int :=
 if k=1 then [0,1,2,6] else if k=2 then [0,1,2,3,4,5] else if k=3 then [0,7] else if k=4 then [3,2,6] else if k=5∨k=6 then [2,4,5] else if k=7∨k=10 then [2]
 else if k=9 then [8,9,4,5] else if k=11 then [9,7] else []
def PlaceR (o:Opn) (f:Int):Prop :=
 if f=0 then 1≤o.txn∧o.txn≤1099511627776
 else if f=1 then 0≤o.age∧o.age≤1099511627776
 else if f=2 then 0≤o.epoch∧o.epoch≤1099511627776
 else if f=3 then (1≤o.snap∧o.snap≤1099511627776)∨(o.kind=2∧o.snap=0)
 else if f=4 then (o.kind=2∧o.snap=0→o.lo=0)∧(¬ (o.kind=2∧o.snap=0)→0≤o.lo∧o.lo≤63∧o.lo<o.hi∧o.hi≤64)
 else if f=5 then (o.kind=2∧o.snap=0→o.hi=0)∧(¬ (o.kind=2∧o.snap=0)→0≤o.lo∧o.lo≤63∧o.lo<o.hi∧o.hi≤64)
 else if f=6 then 0≤o.block∧o.block≤63
 else if f=7 then 1≤o.value∧o.value≤2
 else if f=8 then 1≤o.src∧o.src≤4
 else if f=9 then (1≤o.dst∧o.dst≤4)∨(o.kind=11∧1≤o.dst∧o.dst≤7)
 else False
instance (o:Opn) (f:Int):Decidable (PlaceR o f):=by unfold PlaceR; infer_instance
theorem kinds {k:Int} (h:1≤k∧k≤11):k=1∨k=2∨k=3∨k=4∨k=5∨k=6∨k=7∨k=8∨k=9∨k=10∨k=11:=by omega
theorem all10 {P:Nat→Prop}:(∀ i,i<10→P i)↔P 0∧P 1∧P 2∧P 3∧P 4∧P 5∧P 6∧P 7∧P 8∧P 9:=by
 constructor
 ·intro h; exact ⟨h 0 (by omega),h 1 (by omega),h 2 (by omega),h 3 (by omega),h 4 (by omega),h 5 (by omega),h 6 (by omega),h 7 (by omega),h 8 (by omega),h 9 (by omega)⟩
 ·rintro ⟨h0,h1,h2,h3,h4,h5,h6,h7,h8,h9⟩ i hi
  match i,hi with
  | 0,_=>exact h0
  | 1,_=>exact h1
  | 2,_=>exact h2
  | 3,_=>exact h3
  | 4,_=>exact h4
  | 5,_=>exact h5
  | 6,_=>exact h6
  | 7,_=>exact h7
  | 8,_=>exact h8
  | 9,_=>exact h9
  | n+10,h=>omega
theorem bareN_iff (o:Opn) (hk:1≤o.kind∧o.kind≤11):BareN o↔∀ i,i<10→(rowR o).getD i 0=0∨((i:Nat):Int)∈fieldsR o.kind:=by
 rw [all10 (P:=fun i=>(rowR o).getD i 0=0∨((i:Nat):Int)∈fieldsR o.kind)]
 obtain ⟨k,o1,o2,o3,o4,o5,o6,o7,o8,o9,o10,o11,o12,o13,o14,o15,o16⟩:=o
 have hk':1≤k∧k≤11:=hk
 rcases kinds hk' with rfl|rfl|rfl|rfl|rfl|rfl|rfl|rfl|rfl|rfl|rfl <;>
  simp [BareN,zf,fieldsK,fieldsR,rowR]<;>constructor<;>intro h<;>simp_all
theorem place_iff (o:Opn) (hk:1≤o.kind∧o.kind≤11) (hb:BareN o):PlacedP o↔((0≤o.client∧o.client≤4)∧(0≤o.seq∧o.seq≤1099511627776)∧(o.kind=2→0<o.parts.length))∧∀ f∈fieldsR o.kind,PlaceR o f:=by
 obtain ⟨k,o1,o2,o3,o4,o5,o6,o7,o8,o9,o10,o11,o12,o13,o14,o15,o16⟩:=o
 have hk':1≤k∧k≤11:=hk
 rcases kinds hk' with rfl|rfl|rfl|rfl|rfl|rfl|rfl|rfl|rfl|rfl|rfl <;>
  simp [BareN,zf,fieldsK] at hb<;>simp [PlacedP,Placed1,Placed2,Placed3,SpanP,PlaceR,fieldsR]<;>(try split)<;>omega
theorem place0 (o:Opn):PlaceR o 0↔(1≤o.txn∧o.txn≤1099511627776):=Iff.rfl
theorem place1 (o:Opn):PlaceR o 1↔(0≤o.age∧o.age≤1099511627776):=Iff.rfl
theorem place2 (o:Opn):PlaceR o 2↔(0≤o.epoch∧o.epoch≤1099511627776):=Iff.rfl
theorem place3 (o:Opn):PlaceR o 3↔((1≤o.snap∧o.snap≤1099511627776)∨(o.kind=2∧o.snap=0)):=Iff.rfl
theorem place4 (o:Opn):PlaceR o 4↔((o.kind=2∧o.snap=0→o.lo=0)∧(¬ (o.kind=2∧o.snap=0)→0≤o.lo∧o.lo≤63∧o.lo<o.hi∧o.hi≤64)):=Iff.rfl
theorem place5 (o:Opn):PlaceR o 5↔((o.kind=2∧o.snap=0→o.hi=0)∧(¬ (o.kind=2∧o.snap=0)→0≤o.lo∧o.lo≤63∧o.lo<o.hi∧o.hi≤64)):=Iff.rfl
theorem place6 (o:Opn):PlaceR o 6↔(0≤o.block∧o.block≤63):=Iff.rfl
theorem place7 (o:Opn):PlaceR o 7↔(1≤o.value∧o.value≤2):=Iff.rfl
theorem place8 (o:Opn):PlaceR o 8↔(1≤o.src∧o.src≤4):=Iff.rfl
theorem place9 (o:Opn):PlaceR o 9↔((1≤o.dst∧o.dst≤4)∨(o.kind=11∧1≤o.dst∧o.dst≤7)):=Iff.rfl
theorem fieldsR_in (k:Int):∀ x∈fieldsR k,0≤x∧x≤9:=by
 unfold fieldsR
 (repeat' split)<;>decide
section
variable {o:Opn}
theorem ck13 (h:¬ (1≤o.kind∧o.kind≤11)):checkF o=13:=by unfold checkF; rw [if_pos h]
theorem ck14 (h1:1≤o.kind∧o.kind≤11) (h:¬ BareP o):checkF o=14:=by unfold checkF; rw [if_neg (not_not_intro h1),if_pos h]
theorem ck17 (h1:1≤o.kind∧o.kind≤11) (h2:BareP o) (h:4<o.parts.length∨16<o.reads.length∨8<o.writes.length):checkF o=17:=by unfold checkF; rw [if_neg (not_not_intro h1),if_neg (not_not_intro h2),if_pos h]
variable (h1:1≤o.kind∧o.kind≤11) (h2:BareP o) (h3:¬ (4<o.parts.length∨16<o.reads.length∨8<o.writes.length))
include h1 h2 h3
theorem ck2 (h:32768<o.data.length):checkF o=2:=by unfold checkF; rw [if_neg (not_not_intro h1),if_neg (not_not_intro h2),if_neg h3,if_pos h]
variable (h4:¬ 32768<o.data.length)
include h4
theorem ck3 (h:¬ (PlacedP o∧InAll o.parts 1 4∧InAll o.reads 0 63∧InAll (o.writes.map Wr.block) 0 63)):checkF o=3:=by unfold checkF; rw [if_neg (not_not_intro h1),if_neg (not_not_intro h2),if_neg h3,if_neg h4,if_pos h]
variable (h5:PlacedP o∧InAll o.parts 1 4∧InAll o.reads 0 63∧InAll (o.writes.map Wr.block) 0 63)
include h5
theorem ck21 (h:¬ WritesP o):checkF o=21:=by unfold checkF; rw [if_neg (not_not_intro h1),if_neg (not_not_intro h2),if_neg h3,if_neg h4,if_neg (not_not_intro h5),if_pos h]
variable (h6:WritesP o)
include h6
theorem ck15 (h:¬ (Rises o.parts∧Rises o.reads∧Rises (o.writes.map Wr.block))):checkF o=15:=by unfold checkF; rw [if_neg (not_not_intro h1),if_neg (not_not_intro h2),if_neg h3,if_neg h4,if_neg (not_not_intro h5),if_neg (not_not_intro h6),if_pos h]
theorem ck0 (h:Rises o.parts∧Rises o.reads∧Rises (o.writes.map Wr.block)):checkF o=0:=by unfold checkF; rw [if_neg (not_not_intro h1),if_neg (not_not_intro h2),if_neg h3,if_neg h4,if_neg (not_not_intro h5),if_neg (not_not_intro h6),if_neg (not_not_intro h)]
end
end Sl
end Go.Proofs.YtpkealohodeifaaGreat
namespace Go.Proofs.YtpkealohodeifaaGreat
open Go Go.RowKit
namespace Sl
set_option maxHeartbeats 16000000
set_option maxRecDepth 4000
set_option synthInstance.maxHeartbeats 400000
set_option synthInstance.maxSize 100000
attribute [local irreducible] Hold HoldL HoldW
theorem between21_spec (w0:World) (v a b:Int):Spec Tryz.prog w0 184 [.int .i64 v,.int .i64 a,.int .i64 b] 0 (fun r h'=>r=.bool (decide (a≤v∧v≤b))∧0=h'):=by
 refine zN Tryz.func184 G Tryz.ntmps184 Tryz.results184 G fun fr=>?_
 repeat' (first|refine zF ?_|refine zB ?_|refine zE ?_|refine zK G G G ?_|refine L_skip G G ?_|refine zM ?_|refine yG G G (pv_leq G G) (fun _=>?_) (fun _=>?_)|refine yG G G (pv_geq G G) (fun _=>?_) (fun _=>?_)|exact ⟨[_],0,_,⟨rfl,trivial⟩,⟨by first|exact bool_T (by omega)|exact bool_F (by omega),rfl⟩,yK.out⟩|done)
theorem has21_spec (w0:World) (X:Hp) (v:Value) (xs:List Int) (p:Int) (hv:RdL w0 X v xs) (hl:xs.length≤1000000000) :
  Spec Tryz.prog w0 183 [v,.int .i64 p] X (fun r h'=>r=.bool (decide (p∈xs))∧X=h'):=by
 obtain ⟨a,c,rfl⟩:=hv.shape
 refine zN Tryz.func183 G Tryz.ntmps183 Tryz.results183 G fun fr=>?_
 repeat (first|refine zF ?_|refine zR ?_|refine zB ?_|refine zE ?_|refine zK G G G ?_)
 refine hold_count xs.length (fun k g L=>∃ R:Hp,g=[(0,.slice a xs.length c),(1,.int .i64 p),(5,.int .i64 k)]∧p∉xs.take k∧L=X+fr+R) _ ⟨0,rfl,by simp,(yB _).symm⟩ (by repeat (first|exact zT _|refine zO G ?_)) ?_
 rintro k g L hk ⟨R,rfl,hpre,rfl⟩
 repeat (first|refine zF ?_|refine zB ?_|refine zK G G G ?_|refine L_len G G G ?_)
 refine yG G G (pv_lss G G) (fun n1=>?_) (fun n1=>?_)
 ·have hx:k<xs.length:=by omega
  obtain ⟨b2,o2,rfl,e,rfl,hat⟩:=hv.at hx
  repeat (first|refine zF ?_|refine zR ?_|refine zB ?_|refine zE ?_|refine zK G G G ?_|refine zP ?_|refine zJ G ?_|refine L_idx G G (by omega) G G ?_|refine L_at G (by assumption) G G G G ?_)
  refine yG G G (pv_eql G G) (fun n2=>?_) (fun n2=>?_)
  ·repeat (first|refine zF ?_|refine zB ?_|refine zE ?_|refine zK G G G ?_|refine zM ?_|refine zJ G ?_)
   exact ⟨[_],X,_,⟨rfl,trivial⟩,⟨bool_T (by rw [← n2]; exact List.getElem_mem hx),rfl⟩,yK.out⟩
  ·repeat (first|refine zB ?_|refine zE ?_|refine zK G G G ?_|refine zP ?_|refine zI G ?_|refine L_add G G (by omega) (by omega) G G ?_)
   exact ⟨hx,_,(by repeat (first|exact zT _|refine zO G ?_)),_,rfl,by rw [List.take_succ_eq_append_getElem hx,List.mem_append,List.mem_singleton]; exact fun h=>h.elim hpre (fun e=>n2 e.symm),yK.out⟩
 ·rw [List.take_of_length_le (by omega)] at hpre
  repeat (first|refine zF ?_|refine yD ?_|refine zB ?_|refine zE ?_|refine zK G G G ?_|refine zM ?_|refine zI G ?_)
  exact ⟨[_],X,_,⟨rfl,trivial⟩,⟨bool_F hpre,rfl⟩,yK.out⟩
theorem refIn10_spec (w0:World) (X:Hp) (v:Value) (xs:List Int) (p:Int) (hv:RdL w0 X v xs) (hl:xs.length≤1000000000) :
  Spec Tryz.prog w0 138 [v,.int .i64 p] X (fun r h'=>r=.bool (decide (p∈xs))∧X=h'):=by
 obtain ⟨a,c,rfl⟩:=hv.shape
 refine zN Tryz.func138 G Tryz.ntmps138 Tryz.results138 G fun fr=>?_
 repeat (first|refine zF ?_|refine zR ?_|refine zB ?_|refine zE ?_|refine zK G G G ?_)
 refine hold_count xs.length (fun k g L=>∃ R:Hp,g=[(0,.slice a xs.length c),(1,.int .i64 p),(5,.int .i64 k)]∧p∉xs.take k∧L=X+fr+R) _ ⟨0,rfl,by simp,(yB _).symm⟩ (by repeat (first|exact zT _|refine zO G ?_)) ?_
 rintro k g L hk ⟨R,rfl,hpre,rfl⟩
 repeat (first|refine zF ?_|refine zB ?_|refine zK G G G ?_|refine L_len G G G ?_)
 refine yG G G (pv_lss G G) (fun n1=>?_) (fun n1=>?_)
 ·have hx:k<xs.length:=by omega
  obtain ⟨b2,o2,rfl,e,rfl,hat⟩:=hv.at hx
  repeat (first|refine zF ?_|refine zR ?_|refine zB ?_|refine zE ?_|refine zK G G G ?_|refine zP ?_|refine zJ G ?_|refine L_idx G G (by omega) G G ?_|refine L_at G (by assumption) G G G G ?_)
  refine yG G G (pv_eql G G) (fun n2=>?_) (fun n2=>?_)
  ·repeat (first|refine zF ?_|refine zB ?_|refine zE ?_|refine zK G G G ?_|refine zM ?_|refine zJ G ?_)
   exact ⟨[_],X,_,⟨rfl,trivial⟩,⟨bool_T (by rw [← n2]; exact List.getElem_mem hx),rfl⟩,yK.out⟩
  ·repeat (first|refine zB ?_|refine zE ?_|refine zK G G G ?_|refine zP ?_|refine zI G ?_|refine L_add G G (by omega) (by omega) G G ?_)
   exact ⟨hx,_,(by repeat (first|exact zT _|refine zO G ?_)),_,rfl,by rw [List.take_succ_eq_append_getElem hx,List.mem_append,List.mem_singleton]; exact fun h=>h.elim hpre (fun e=>n2 e.symm),yK.out⟩
 ·rw [List.take_of_length_le (by omega)] at hpre
  repeat (first|refine zF ?_|refine yD ?_|refine zB ?_|refine zE ?_|refine zK G G G ?_|refine zM ?_|refine zI G ?_)
  exact ⟨[_],X,_,⟨rfl,trivial⟩,⟨bool_F hpre,rfl⟩,yK.out⟩
theorem all21_spec (w0:World) (X:Hp) (v:Value) (xs:List Int) (a b:Int) (hv:RdL w0 X v xs) (hl:xs.length≤1000000000) :
  Spec Tryz.prog w0 186 [v,.int .i64 a,.int .i64 b] X (fun r h'=>r=.bool (decide (InAll xs a b))∧X=h'):=by
 obtain ⟨ad,c,rfl⟩:=hv.shape
 refine zN Tryz.func186 G Tryz.ntmps186 Tryz.results186 G fun fr=>?_
 repeat (first|refine zF ?_|refine zR ?_|refine zB ?_|refine zE ?_|refine zK G G G ?_)
 refine hold_count xs.length (fun k g L=>∃ R:Hp,g=[(0,.slice ad xs.length c),(1,.int .i64 a),(2,.int .i64 b),(7,.int .i64 k)]∧(∀ x∈xs.take k,a≤x∧x≤b)∧L=X+fr+R) _ ⟨0,rfl,by simp,(yB _).symm⟩ (by repeat (first|exact zT _|refine zO G ?_)) ?_
 rintro k g L hk ⟨R,rfl,hpre,rfl⟩
 repeat (first|refine zF ?_|refine zB ?_|refine zK G G G ?_|refine L_len G G G ?_)
 refine yG G G (pv_lss G G) (fun n1=>?_) (fun n1=>?_)
 ·have hx:k<xs.length:=by omega
  obtain ⟨b2,o2,rfl,e,rfl,hat⟩:=hv.at hx
  repeat (first|refine zF ?_|refine zR ?_|refine zB ?_|refine zE ?_|refine zK G G G ?_|refine zP ?_|refine zJ G ?_|refine L_idx G G (by omega) G G ?_|refine L_at G (by assumption) G G G G ?_)
  refine L_callD G G (zQ G G G) (between21_spec w0 xs[k] a b) (fun n2=>?_) (fun n2=>?_)
  ·repeat (first|refine zB ?_|refine zE ?_|refine zK G G G ?_|refine zP ?_|refine zI G ?_|refine L_add G G (by omega) (by omega) G G ?_)
   exact ⟨hx,_,(by repeat (first|exact zT _|refine zO G ?_)),_,rfl,by
    intro x hm
    rw [List.take_succ_eq_append_getElem hx,List.mem_append,List.mem_singleton] at hm
    rcases hm with hm|rfl
    ·exact hpre x hm
    ·exact n2,yK.out⟩
  ·repeat (first|refine zF ?_|refine zB ?_|refine zE ?_|refine zK G G G ?_|refine zM ?_|refine zJ G ?_)
   exact ⟨[_],X,_,⟨rfl,trivial⟩,⟨bool_F (fun h=>n2 (h _ (List.getElem_mem hx))),rfl⟩,yK.out⟩
 ·rw [List.take_of_length_le (by omega)] at hpre
  repeat (first|refine zF ?_|refine yD ?_|refine zB ?_|refine zE ?_|refine zK G G G ?_|refine zM ?_|refine zI G ?_)
  exact ⟨[_],X,_,⟨rfl,trivial⟩,⟨bool_T hpre,rfl⟩,yK.out⟩
theorem rises21_spec (w0:World) (X:Hp) (v:Value) (l:List Int) (hv:RdL w0 X v l) (hl:l.length≤1000000000) :
  Spec Tryz.prog w0 188 [v] X (fun r h'=>r=.bool (decide (Rises l))∧X=h'):=by
 obtain ⟨a,c,rfl⟩:=hv.shape
 refine zN Tryz.func188 G Tryz.ntmps188 Tryz.results188 G fun fr=>?_
 repeat (first|refine zF ?_|refine zR ?_|refine zB ?_|refine zE ?_|refine zK G G G ?_)
 refine hold_count l.length (fun k g L=>∃ R:Hp,g=[(0,.slice a l.length c),(3,.int .i64 ((k:Int)+1))]∧Rises (l.take (k+1))∧L=X+fr+R) _ ⟨0,rfl,by
  cases l with
  | nil=>exact List.Pairwise.nil
  | cons x l=>simp [Rises],by simp only [yB]⟩ (by repeat (first|exact zT _|refine zO G ?_)) ?_
 rintro k g L hk ⟨R,rfl,hr,rfl⟩
 repeat (first|refine zF ?_|refine zB ?_|refine zK G G G ?_|refine L_len G G G ?_)
 refine yG G G (pv_lss G G) (fun h2=>?_) (fun h2=>?_)
 ·have hx:k<l.length:=by omega
  have hx1:k+1<l.length:=by omega
  obtain ⟨b2,o2,rfl,e,rfl,hat⟩:=hv.at hx
  obtain ⟨b3,o3,e3,e',rfl,hat3⟩:=hv.at hx1
  cases e3
  rw [show (k:Int)+1=((k+1:Nat):Int) by omega]
  repeat (first|refine zF ?_|refine zR ?_|refine zE ?_|refine zP ?_|refine zJ G ?_)
  refine yC [] [0,1,2,3,4,5,6,7,8,9] (by kernel_rfl) G (by kernel_rfl) (by kernel_rfl) ?_
  repeat (refine yI G G G G G ?_)
  refine yE G G G G (pv_sub G G (by omega) (by omega)) ?_
  rw [show ((k+1:Nat):Int) - 1=(k:Int) by omega]
  repeat (first|refine yI G G G G G ?_|refine W_idx G G G (by omega) G G G ?_|refine W_at G G (by assumption) G G G G G ?_)
  refine W_dec G G G G (pv_geq G G) (fun h3=>?_) (fun h3=>?_)
  ·repeat (refine yJ ?_)
   repeat (first|refine zF ?_|refine zB ?_|refine zE ?_|refine zK G G G ?_|refine zM ?_|refine zJ G ?_)
   refine ⟨[_],X,_,⟨rfl,trivial⟩,⟨bool_F ?_,rfl⟩,yK.out⟩
   intro hall
   have:=(List.pairwise_iff_getElem.1 hall) k (k+1) hx hx1 (by omega)
   omega
  ·repeat (refine yJ ?_)
   repeat (first|refine zB ?_|refine zE ?_|refine zK G G G ?_|refine zP ?_|refine zI G ?_|refine L_add G G (by omega) (by omega) G G ?_)
   exact ⟨hx,_,(by repeat (first|exact zT _|refine zO G ?_)),_,rfl,rises_take hr hx1 (fun _=>by simpa using h3),yK.out⟩
 ·rw [List.take_of_length_le (by omega)] at hr
  repeat (first|refine zF ?_|refine yD ?_|refine zB ?_|refine zE ?_|refine zK G G G ?_|refine zM ?_|refine zI G ?_)
  exact ⟨[_],X,_,⟨rfl,trivial⟩,⟨bool_T hr,rfl⟩,yK.out⟩
theorem written21_spec (w0:World) (X:Hp) (o:Opn) (e:List Value) (he:Rep.rd w0 X o e) (hl:o.writes.length≤1000000000) :
  Spec Tryz.prog w0 187 [.agg e.toArray] X (fun r h'=>∃ h,OwL w0 0 (o.writes.map Wr.block) r h∧X+h=h'):=by
 obtain ⟨x1,y1,x2,y2,x3,y3,x4,y4,rfl,r1,r2,r3,r4⟩:=id he
 refine zN Tryz.func187 G Tryz.ntmps187 Tryz.results187 G fun fr=>?_
 repeat (first|refine zF ?_|refine zR ?_|refine zB ?_|refine zE ?_|refine zK G G G ?_|refine L_box G (c:=[_,_,_,_,_,_,_,_,_,_,_,_,_,_,_,_,_]) G G G (fun _=>?_))
 rename_i b1
 refine hold_count o.writes.length (fun k g L=>∃ (vo:Value) (h R:Hp),g=[(1,.pointer (some ⟨b1,0,none⟩)),(3,vo),(4,.int .i64 k)]∧OwL w0 0 ((o.writes.take k).map Wr.block) vo h∧L=X+h+pt b1 (.cells [.int .i64 o.kind,.int .i64 o.client,.int .i64 o.seq,.int .i64 o.txn,.int .i64 o.age,.int .i64 o.epoch,.int .i64 o.lo,.int .i64 o.hi,.int .i64 o.block,.int .i64 o.snap,.int .i64 o.value,.int .i64 o.src,.int .i64 o.dst,.slice x1 o.parts.length y1,.slice x2 o.reads.length y2,.slice x3 o.writes.length y3,.slice x4 o.data.length y4].toArray 49 (0,0))+fr+R) _
  ⟨.slice none 0 0,0,_,rfl,OwL.nil _ _,by simp only [yB]; exact yK.out⟩ (by repeat (first|exact zT _|refine zO G ?_)) ?_
 rintro k g L hk ⟨vo,h,R,rfl,ho,rfl⟩
 repeat (first|refine zF ?_|refine zB ?_|refine zK G G G ?_|refine zZ G G G G G ?_|refine L_ld G G G G G ?_|refine L_len G G G ?_)
 refine yG G G (pv_lss G G) (fun n1=>?_) (fun n1=>?_)
 ·have hx:k<o.writes.length:=by omega
  obtain ⟨b2,o2,rfl,e,⟨a3,c3,rfl,hdat⟩,hat⟩:=r3.at hx
  repeat (first|refine zF ?_|refine zR ?_|refine zB ?_|refine zE ?_|refine zK G G G ?_|refine zZ G G G G G ?_|refine L_ld G G G G G ?_|refine zP ?_|refine zJ G ?_|refine L_idx G G (by omega) G G ?_|refine L_atf G (by assumption) G G G G ?_|refine L_bs (vs:=[_]) (cells:=[_]) G G G G G G (fun _=>?_))
  refine L_eff G G (ev_appendL (X:=0) (ns:=[o.writes[k].block]) (h:=h) G G ho (rd_one G) (All2.one G) G G G G G (by simp only [List.length_map,List.length_take,List.length_singleton]; omega)) ?_
  rintro vo' _ ⟨h',ho',rfl⟩
  repeat (first|refine zB ?_|refine zE ?_|refine zK G G G ?_|refine L_add G G (by omega) (by omega) G G ?_)
  exact ⟨hx,_,(by repeat (first|exact zT _|refine zO G ?_)),vo',h',_,rfl,by rw [List.take_succ_eq_append_getElem hx,List.map_append]; exact ho',yK.out⟩
 ·rw [List.take_of_length_le (by omega)] at ho
  repeat (first|refine zF ?_|refine yD ?_|refine zB ?_|refine zE ?_|refine zK G G G ?_|refine zM ?_|refine zI G ?_)
  exact ⟨[_],X+h,_,⟨rfl,trivial⟩,⟨h,ho,rfl⟩,yK.out⟩
theorem row21_spec (w0:World) (X:Hp) (o:Opn) (e:List Value) (he:Rep.rd w0 X o e) :
  Spec Tryz.prog w0 182 [.agg e.toArray] X (fun r h'=>∃ h,OwL w0 0 (rowR o) r h∧X+h=h'):=by
 obtain ⟨x1,y1,x2,y2,x3,y3,x4,y4,rfl,r1,r2,r3,r4⟩:=id he
 refine zN Tryz.func182 G Tryz.ntmps182 Tryz.results182 G fun fr=>?_
 repeat (first|refine zF ?_|refine zB ?_|refine zE ?_|refine zK G G G ?_|refine zZ G G G G G ?_|refine L_ld G G G G G ?_|refine zM ?_|refine L_box G (c:=[_,_,_,_,_,_,_,_,_,_,_,_,_,_,_,_,_]) G G G (fun _=>?_)|refine L_bs (vs:=[_,_,_,_,_,_,_,_,_,_]) (cells:=[_,_,_,_,_,_,_,_,_,_]) G G G G G G (fun _=>?_))
 rename_i b1 b2
 exact ⟨[_],X+pt b2 (.cells [.int .i64 o.txn,.int .i64 o.age,.int .i64 o.epoch,.int .i64 o.snap,.int .i64 o.lo,.int .i64 o.hi,.int .i64 o.block,.int .i64 o.value,.int .i64 o.src,.int .i64 o.dst].toArray 3 (0,0)),_,⟨rfl,trivial⟩,⟨_,OwL.block (xs:=rowR o) (rdI_enc.2 G) (by show (10:Nat)≤maxLen; decide),rfl⟩,yK.out⟩
theorem fields21_spec (w0:World) (k:Int) :
  Spec Tryz.prog w0 181 [.int .i64 k] 0 (fun r h'=>∃ v h,r=.tuple #[v,.bool (decide (1≤k∧k≤11))]∧OwL w0 0 (fieldsR k) v h∧h=h'):=by
 by_cases hk:1≤k∧k≤11
 ·rw [decide_eq_true hk]
  rcases kinds hk with rfl|rfl|rfl|rfl|rfl|rfl|rfl|rfl|rfl|rfl|rfl
  ·refine zN Tryz.func181 G Tryz.ntmps181 Tryz.results181 G fun fr=>?_
   repeat' (first|refine zF ?_|refine zR ?_|refine zB ?_|refine zE ?_|refine zK G G G ?_|refine zM ?_|refine zJ G ?_|refine L_bs (vs:=[_,_,_,_]) (cells:=[_,_,_,_]) G G G G G G (fun _=>?_)|refine L_yes G G (pv_eql G G) (by omega) ?_|done)
   rename_i b1
   exact ⟨[_,_],pt b1 (.cells [.int .i64 0,.int .i64 1,.int .i64 2,.int .i64 6].toArray 3 (0,0)),_,⟨rfl,rfl,trivial⟩,⟨_,_,rfl,OwL.block (xs:=[0,1,2,6]) (rdI_enc.2 G) (by decide),rfl⟩,yK.out⟩
  ·refine zN Tryz.func181 G Tryz.ntmps181 Tryz.results181 G fun fr=>?_
   repeat' (first|refine zF ?_|refine zR ?_|refine zB ?_|refine zE ?_|refine zK G G G ?_|refine zM ?_|refine zJ G ?_|refine zI G ?_|refine L_bs (vs:=[_,_,_,_,_,_]) (cells:=[_,_,_,_,_,_]) G G G G G G (fun _=>?_)|refine L_yes G G (pv_eql G G) (by omega) ?_|refine L_no G G (pv_eql G G) (by omega) ?_|done)
   rename_i b1
   exact ⟨[_,_],pt b1 (.cells [.int .i64 0,.int .i64 1,.int .i64 2,.int .i64 3,.int .i64 4,.int .i64 5].toArray 3 (0,0)),_,⟨rfl,rfl,trivial⟩,⟨_,_,rfl,OwL.block (xs:=[0,1,2,3,4,5]) (rdI_enc.2 G) (by decide),rfl⟩,yK.out⟩
  ·refine zN Tryz.func181 G Tryz.ntmps181 Tryz.results181 G fun fr=>?_
   repeat' (first|refine zF ?_|refine zR ?_|refine zB ?_|refine zE ?_|refine zK G G G ?_|refine zM ?_|refine zJ G ?_|refine zI G ?_|refine L_bs (vs:=[_,_]) (cells:=[_,_]) G G G G G G (fun _=>?_)|refine L_yes G G (pv_eql G G) (by omega) ?_|refine L_no G G (pv_eql G G) (by omega) ?_|done)
   rename_i b1
   exact ⟨[_,_],pt b1 (.cells [.int .i64 0,.int .i64 7].toArray 3 (0,0)),_,⟨rfl,rfl,trivial⟩,⟨_,_,rfl,OwL.block (xs:=[0,7]) (rdI_enc.2 G) (by decide),rfl⟩,yK.out⟩
  ·refine zN Tryz.func181 G Tryz.ntmps181 Tryz.results181 G fun fr=>?_
   repeat' (first|refine zF ?_|refine zR ?_|refine zB ?_|refine zE ?_|refine zK G G G ?_|refine zM ?_|refine zJ G ?_|refine zI G ?_|refine L_bs (vs:=[_,_,_]) (cells:=[_,_,_]) G G G G G G (fun _=>?_)|refine L_yes G G (pv_eql G G) (by omega) ?_|refine L_no G G (pv_eql G G) (by omega) ?_|done)
   rename_i b1
   exact ⟨[_,_],pt b1 (.cells [.int .i64 3,.int .i64 2,.int .i64 6].toArray 3 (0,0)),_,⟨rfl,rfl,trivial⟩,⟨_,_,rfl,OwL.block (xs:=[3,2,6]) (rdI_enc.2 G) (by decide),rfl⟩,yK.out⟩
  ·refine zN Tryz.func181 G Tryz.ntmps181 Tryz.results181 G fun fr=>?_
   repeat' (first|refine zF ?_|refine zR ?_|refine zB ?_|refine zE ?_|refine zK G G G ?_|refine zP ?_|refine zM ?_|refine zJ G ?_|refine zI G ?_|refine L_bs (vs:=[_,_,_]) (cells:=[_,_,_]) G G G G G G (fun _=>?_)|refine L_yes G G (pv_eql G G) (by omega) ?_|refine L_no G G (pv_eql G G) (by omega) ?_|done)
   rename_i b1
   exact ⟨[_,_],pt b1 (.cells [.int .i64 2,.int .i64 4,.int .i64 5].toArray 3 (0,0)),_,⟨rfl,rfl,trivial⟩,⟨_,_,rfl,OwL.block (xs:=[2,4,5]) (rdI_enc.2 G) (by decide),rfl⟩,yK.out⟩
  ·refine zN Tryz.func181 G Tryz.ntmps181 Tryz.results181 G fun fr=>?_
   repeat' (first|refine zF ?_|refine zR ?_|refine zB ?_|refine zE ?_|refine zK G G G ?_|refine zM ?_|refine zJ G ?_|refine zI G ?_|refine L_bs (vs:=[_,_,_]) (cells:=[_,_,_]) G G G G G G (fun _=>?_)|refine L_yes G G (pv_eql G G) (by omega) ?_|refine L_no G G (pv_eql G G) (by omega) ?_|done)
   rename_i b1
   exact ⟨[_,_],pt b1 (.cells [.int .i64 2,.int .i64 4,.int .i64 5].toArray 3 (0,0)),_,⟨rfl,rfl,trivial⟩,⟨_,_,rfl,OwL.block (xs:=[2,4,5]) (rdI_enc.2 G) (by decide),rfl⟩,yK.out⟩
  ·refine zN Tryz.func181 G Tryz.ntmps181 Tryz.results181 G fun fr=>?_
   repeat' (first|refine zF ?_|refine zR ?_|refine zB ?_|refine zE ?_|refine zK G G G ?_|refine zP ?_|refine zM ?_|refine zJ G ?_|refine zI G ?_|refine L_bs (vs:=[_]) (cells:=[_]) G G G G G G (fun _=>?_)|refine L_yes G G (pv_eql G G) (by omega) ?_|refine L_no G G (pv_eql G G) (by omega) ?_|done)
   rename_i b1
   exact ⟨[_,_],pt b1 (.cells [.int .i64 2].toArray 3 (0,0)),_,⟨rfl,rfl,trivial⟩,⟨_,_,rfl,OwL.block (xs:=[2]) (rdI_enc.2 G) (by decide),rfl⟩,yK.out⟩
  ·refine zN Tryz.func181 G Tryz.ntmps181 Tryz.results181 G fun fr=>?_
   repeat' (first|refine zF ?_|refine zR ?_|refine zB ?_|refine zE ?_|refine zK G G G ?_|refine zM ?_|refine zJ G ?_|refine zI G ?_|refine L_yes G G (pv_eql G G) (by omega) ?_|refine L_no G G (pv_eql G G) (by omega) ?_|done)
   exact ⟨[_,_],0,_,⟨rfl,rfl,trivial⟩,⟨_,_,rfl,OwL.nil _ _,rfl⟩,yK.out⟩
  ·refine zN Tryz.func181 G Tryz.ntmps181 Tryz.results181 G fun fr=>?_
   repeat' (first|refine zF ?_|refine zR ?_|refine zB ?_|refine zE ?_|refine zK G G G ?_|refine zM ?_|refine zJ G ?_|refine zI G ?_|refine L_bs (vs:=[_,_,_,_]) (cells:=[_,_,_,_]) G G G G G G (fun _=>?_)|refine L_yes G G (pv_eql G G) (by omega) ?_|refine L_no G G (pv_eql G G) (by omega) ?_|done)
   rename_i b1
   exact ⟨[_,_],pt b1 (.cells [.int .i64 8,.int .i64 9,.int .i64 4,.int .i64 5].toArray 3 (0,0)),_,⟨rfl,rfl,trivial⟩,⟨_,_,rfl,OwL.block (xs:=[8,9,4,5]) (rdI_enc.2 G) (by decide),rfl⟩,yK.out⟩
  ·refine zN Tryz.func181 G Tryz.ntmps181 Tryz.results181 G fun fr=>?_
   repeat' (first|refine zF ?_|refine zR ?_|refine zB ?_|refine zE ?_|refine zK G G G ?_|refine zM ?_|refine zJ G ?_|refine zI G ?_|refine L_bs (vs:=[_]) (cells:=[_]) G G G G G G (fun _=>?_)|refine L_yes G G (pv_eql G G) (by omega) ?_|refine L_no G G (pv_eql G G) (by omega) ?_|done)
   rename_i b1
   exact ⟨[_,_],pt b1 (.cells [.int .i64 2].toArray 3 (0,0)),_,⟨rfl,rfl,trivial⟩,⟨_,_,rfl,OwL.block (xs:=[2]) (rdI_enc.2 G) (by decide),rfl⟩,yK.out⟩
  ·refine zN Tryz.func181 G Tryz.ntmps181 Tryz.results181 G fun fr=>?_
   repeat' (first|refine zF ?_|refine zR ?_|refine zB ?_|refine zE ?_|refine zK G G G ?_|refine zM ?_|refine zJ G ?_|refine zI G ?_|refine L_bs (vs:=[_,_]) (cells:=[_,_]) G G G G G G (fun _=>?_)|refine L_yes G G (pv_eql G G) (by omega) ?_|refine L_no G G (pv_eql G G) (by omega) ?_|done)
   rename_i b1
   exact ⟨[_,_],pt b1 (.cells [.int .i64 9,.int .i64 7].toArray 3 (0,0)),_,⟨rfl,rfl,trivial⟩,⟨_,_,rfl,OwL.block (xs:=[9,7]) (rdI_enc.2 G) (by decide),rfl⟩,yK.out⟩
 ·rw [decide_eq_false hk]
  have hf:fieldsR k=[]:=by
   unfold fieldsR
   repeat rw [if_neg (by omega)]
  rw [hf]
  refine zN Tryz.func181 G Tryz.ntmps181 Tryz.results181 G fun fr=>?_
  repeat' (first|refine zF ?_|refine zR ?_|refine zB ?_|refine zE ?_|refine zK G G G ?_|refine zP ?_|refine zM ?_|refine zI G ?_|refine L_no G G (pv_eql G G) (by omega) ?_|exact ⟨[_,_],0,_,⟨rfl,rfl,trivial⟩,⟨_,_,rfl,OwL.nil _ _,rfl⟩,yK.out⟩|done)
theorem placed21R_spec (w0:World) (X:Hp) (o:Opn) (e:List Value) (f:Int) (he:Rep.rd w0 X o e) (hf:0≤f∧f≤9) :
  Spec Tryz.prog w0 185 [.agg e.toArray,.int .i64 f] X (fun r h'=>r=.bool (decide (PlaceR o f))∧X=h'):=by
 have hrow:=row21_spec w0 X o e he
 obtain ⟨x1,y1,x2,y2,x3,y3,x4,y4,rfl,r1,r2,r3,r4⟩:=id he
 rcases (show f=0∨f=1∨f=2∨f=3∨f=4∨f=5∨f=6∨f=7∨f=8∨f=9 by omega) with rfl|rfl|rfl|rfl|rfl|rfl|rfl|rfl|rfl|rfl
 ·have hp:PlaceR o 0↔(1≤o.txn∧o.txn≤1099511627776):=place0 o
  refine zN Tryz.func185 G Tryz.ntmps185 Tryz.results185 G fun fr=>?_
  repeat (first|refine zF ?_|refine zB ?_|refine zE ?_|refine zK G G G ?_|refine L_ldA G (vs:=[_,_,_,_,_,_,_,_,_,_,_,_,_,_,_,_,_]) G G G G G ?_|refine L_box G (c:=[_,_,_,_,_,_,_,_,_,_,_,_,_,_,_,_,_]) G G G (fun _=>?_))
  refine zY G G (zQ G G G) hrow ?_
  rintro _ _ ⟨h,ho,rfl⟩
  obtain ⟨a5,c5,rfl⟩:=ho.shape
  have hr:RdL w0 (X+h) (.slice a5 (rowR o).length c5) (rowR o):=ho.rd (R:=X)
  obtain ⟨b5,o5,rfl,e,he5,hat⟩:=hr.at (i:=0) (by show 0<10; omega)
  obtain rfl:e=[.int .i64 o.txn]:=he5
  repeat (refine zK G G G ?_)
  refine yH G G (pv_indexAddr (i:=0) G G (by show 0<10; omega)) ?_
  repeat (first|refine zF ?_|refine zR ?_|refine zB ?_|refine zE ?_|refine zK G G G ?_|refine L_atf G (by assumption) G G G G ?_)
  refine L_yes G G (pv_eql G G) (by decide) ?_
  repeat (first|refine zF ?_|refine zB ?_|refine zE ?_|refine zK G G G ?_|refine zJ G ?_)
  refine L_callD G G (zQ G G G) (between21_spec w0 o.txn 1 1099511627776) (fun c1=>?_) (fun c2=>?_)
  ·repeat (first|refine zE ?_|refine zK G G G ?_|refine zM ?_)
   exact ⟨[_],X,_,⟨rfl,trivial⟩,⟨bool_T (hp.2 (by omega)),rfl⟩,yK.out⟩
  ·repeat (first|refine zE ?_|refine zK G G G ?_|refine zM ?_)
   exact ⟨[_],X,_,⟨rfl,trivial⟩,⟨bool_F (fun h=>absurd (hp.1 h) (by omega)),rfl⟩,yK.out⟩
 ·have hp:PlaceR o 1↔(0≤o.age∧o.age≤1099511627776):=place1 o
  refine zN Tryz.func185 G Tryz.ntmps185 Tryz.results185 G fun fr=>?_
  repeat (first|refine zF ?_|refine zB ?_|refine zE ?_|refine zK G G G ?_|refine L_ldA G (vs:=[_,_,_,_,_,_,_,_,_,_,_,_,_,_,_,_,_]) G G G G G ?_|refine L_box G (c:=[_,_,_,_,_,_,_,_,_,_,_,_,_,_,_,_,_]) G G G (fun _=>?_))
  refine zY G G (zQ G G G) hrow ?_
  rintro _ _ ⟨h,ho,rfl⟩
  obtain ⟨a5,c5,rfl⟩:=ho.shape
  have hr:RdL w0 (X+h) (.slice a5 (rowR o).length c5) (rowR o):=ho.rd (R:=X)
  obtain ⟨b5,o5,rfl,e,he5,hat⟩:=hr.at (i:=1) (by show 1<10; omega)
  obtain rfl:e=[.int .i64 o.age]:=he5
  repeat (refine zK G G G ?_)
  refine yH G G (pv_indexAddr (i:=1) G G (by show 1<10; omega)) ?_
  repeat (first|refine zF ?_|refine zR ?_|refine zB ?_|refine zE ?_|refine zK G G G ?_|refine L_at G (by assumption) G G G G ?_)
  refine L_no G G (pv_eql G G) (by decide) ?_
  repeat (first|refine zF ?_|refine zB ?_|refine zE ?_|refine zK G G G ?_|refine zI G ?_)
  refine L_no G G (pv_eql G G) (by decide) ?_
  repeat (first|refine zF ?_|refine zB ?_|refine zE ?_|refine zK G G G ?_|refine zI G ?_)
  refine L_no G G (pv_eql G G) (by decide) ?_
  repeat (first|refine zB ?_|refine zE ?_|refine zK G G G ?_|refine zI G ?_)
  refine L_no G G (pv_eql G G) (by decide) ?_
  repeat (first|refine zF ?_|refine zB ?_|refine zE ?_|refine zK G G G ?_|refine zI G ?_)
  refine L_no G G (pv_eql G G) (by decide) ?_
  repeat (first|refine zF ?_|refine zB ?_|refine zE ?_|refine zK G G G ?_|refine zI G ?_)
  refine L_no G G (pv_eql G G) (by decide) ?_
  repeat (first|refine zF ?_|refine zB ?_|refine zE ?_|refine zK G G G ?_|refine zI G ?_)
  refine L_no G G (pv_eql G G) (by decide) ?_
  repeat (first|refine zF ?_|refine zB ?_|refine zE ?_|refine zK G G G ?_|refine zI G ?_)
  refine L_no G G (pv_eql G G) (by decide) ?_
  repeat (first|refine zF ?_|refine zB ?_|refine zE ?_|refine zK G G G ?_|refine zP ?_|refine zI G ?_)
  refine L_callD G G (zQ G G G) (between21_spec w0 o.age 0 1099511627776) (fun c1=>?_) (fun c2=>?_)
  ·repeat (first|refine zE ?_|refine zK G G G ?_|refine zM ?_)
   exact ⟨[_],X,_,⟨rfl,trivial⟩,⟨bool_T (hp.2 (by omega)),rfl⟩,yK.out⟩
  ·repeat (first|refine zE ?_|refine zK G G G ?_|refine zM ?_)
   exact ⟨[_],X,_,⟨rfl,trivial⟩,⟨bool_F (fun h=>absurd (hp.1 h) (by omega)),rfl⟩,yK.out⟩
 ·have hp:PlaceR o 2↔(0≤o.epoch∧o.epoch≤1099511627776):=place2 o
  refine zN Tryz.func185 G Tryz.ntmps185 Tryz.results185 G fun fr=>?_
  repeat (first|refine zF ?_|refine zB ?_|refine zE ?_|refine zK G G G ?_|refine L_ldA G (vs:=[_,_,_,_,_,_,_,_,_,_,_,_,_,_,_,_,_]) G G G G G ?_|refine L_box G (c:=[_,_,_,_,_,_,_,_,_,_,_,_,_,_,_,_,_]) G G G (fun _=>?_))
  refine zY G G (zQ G G G) hrow ?_
  rintro _ _ ⟨h,ho,rfl⟩
  obtain ⟨a5,c5,rfl⟩:=ho.shape
  have hr:RdL w0 (X+h) (.slice a5 (rowR o).length c5) (rowR o):=ho.rd (R:=X)
  obtain ⟨b5,o5,rfl,e,he5,hat⟩:=hr.at (i:=2) (by show 2<10; omega)
  obtain rfl:e=[.int .i64 o.epoch]:=he5
  repeat (refine zK G G G ?_)
  refine yH G G (pv_indexAddr (i:=2) G G (by show 2<10; omega)) ?_
  repeat (first|refine zF ?_|refine zR ?_|refine zB ?_|refine zE ?_|refine zK G G G ?_|refine L_at G (by assumption) G G G G ?_)
  refine L_no G G (pv_eql G G) (by decide) ?_
  repeat (first|refine zF ?_|refine zB ?_|refine zE ?_|refine zK G G G ?_|refine zI G ?_)
  refine L_no G G (pv_eql G G) (by decide) ?_
  repeat (first|refine zF ?_|refine zB ?_|refine zE ?_|refine zK G G G ?_|refine zI G ?_)
  refine L_no G G (pv_eql G G) (by decide) ?_
  repeat (first|refine zB ?_|refine zE ?_|refine zK G G G ?_|refine zI G ?_)
  refine L_no G G (pv_eql G G) (by decide) ?_
  repeat (first|refine zF ?_|refine zB ?_|refine zE ?_|refine zK G G G ?_|refine zI G ?_)
  refine L_no G G (pv_eql G G) (by decide) ?_
  repeat (first|refine zF ?_|refine zB ?_|refine zE ?_|refine zK G G G ?_|refine zI G ?_)
  refine L_no G G (pv_eql G G) (by decide) ?_
  repeat (first|refine zF ?_|refine zB ?_|refine zE ?_|refine zK G G G ?_|refine zI G ?_)
  refine L_no G G (pv_eql G G) (by decide) ?_
  repeat (first|refine zF ?_|refine zB ?_|refine zE ?_|refine zK G G G ?_|refine zI G ?_)
  refine L_no G G (pv_eql G G) (by decide) ?_
  repeat (first|refine zF ?_|refine zB ?_|refine zE ?_|refine zK G G G ?_|refine zP ?_|refine zI G ?_)
  refine L_callD G G (zQ G G G) (between21_spec w0 o.epoch 0 1099511627776) (fun c1=>?_) (fun c2=>?_)
  ·repeat (first|refine zE ?_|refine zK G G G ?_|refine zM ?_)
   exact ⟨[_],X,_,⟨rfl,trivial⟩,⟨bool_T (hp.2 (by omega)),rfl⟩,yK.out⟩
  ·repeat (first|refine zE ?_|refine zK G G G ?_|refine zM ?_)
   exact ⟨[_],X,_,⟨rfl,trivial⟩,⟨bool_F (fun h=>absurd (hp.1 h) (by omega)),rfl⟩,yK.out⟩
 ·have hp:PlaceR o 3↔((1≤o.snap∧o.snap≤1099511627776)∨(o.kind=2∧o.snap=0)):=place3 o
  refine zN Tryz.func185 G Tryz.ntmps185 Tryz.results185 G fun fr=>?_
  repeat (first|refine zF ?_|refine zB ?_|refine zE ?_|refine zK G G G ?_|refine L_ldA G (vs:=[_,_,_,_,_,_,_,_,_,_,_,_,_,_,_,_,_]) G G G G G ?_|refine L_box G (c:=[_,_,_,_,_,_,_,_,_,_,_,_,_,_,_,_,_]) G G G (fun _=>?_))
  refine zY G G (zQ G G G) hrow ?_
  rintro _ _ ⟨h,ho,rfl⟩
  obtain ⟨a5,c5,rfl⟩:=ho.shape
  have hr:RdL w0 (X+h) (.slice a5 (rowR o).length c5) (rowR o):=ho.rd (R:=X)
  obtain ⟨b5,o5,rfl,e,he5,hat⟩:=hr.at (i:=3) (by show 3<10; omega)
  obtain rfl:e=[.int .i64 o.snap]:=he5
  repeat (refine zK G G G ?_)
  refine yH G G (pv_indexAddr (i:=3) G G (by show 3<10; omega)) ?_
  repeat (first|refine zF ?_|refine zR ?_|refine zB ?_|refine zE ?_|refine zK G G G ?_|refine L_at G (by assumption) G G G G ?_)
  refine L_no G G (pv_eql G G) (by decide) ?_
  repeat (first|refine zF ?_|refine zB ?_|refine zE ?_|refine zK G G G ?_|refine zI G ?_)
  refine L_yes G G (pv_eql G G) (by decide) ?_
  repeat (first|refine zF ?_|refine zB ?_|refine zE ?_|refine zK G G G ?_|refine zJ G ?_)
  refine L_callD G G (zQ G G G) (between21_spec w0 o.snap 1 1099511627776) (fun c1=>?_) (fun c2=>?_)
  ·repeat (first|refine zE ?_|refine zK G G G ?_|refine L_skip G G ?_|refine zM ?_)
   exact ⟨[_],X,_,⟨rfl,trivial⟩,⟨bool_T (hp.2 (by omega)),rfl⟩,yK.out⟩
  ·repeat (first|refine zK G G G ?_|refine zZ G G G G G ?_|refine L_ld G G G G G ?_)
   refine yG G G (pv_eql G G) (fun c1=>?_) (fun c2=>?_)
   ·repeat (refine zK G G G ?_)
    refine yG G G (pv_eql G G) (fun c1=>?_) (fun c2=>?_)
    ·repeat (first|refine zE ?_|refine zK G G G ?_|refine zM ?_)
     exact ⟨[_],X,_,⟨rfl,trivial⟩,⟨bool_T (hp.2 (by omega)),rfl⟩,yK.out⟩
    ·repeat (first|refine zE ?_|refine zK G G G ?_|refine zM ?_)
     exact ⟨[_],X,_,⟨rfl,trivial⟩,⟨bool_F (fun h=>absurd (hp.1 h) (by omega)),rfl⟩,yK.out⟩
   ·repeat (first|refine zE ?_|refine zK G G G ?_|refine L_skip G G ?_|refine zM ?_)
    exact ⟨[_],X,_,⟨rfl,trivial⟩,⟨bool_F (fun h=>absurd (hp.1 h) (by omega)),rfl⟩,yK.out⟩
 ·have hp:PlaceR o 4↔((o.kind=2∧o.snap=0→o.lo=0)∧(¬ (o.kind=2∧o.snap=0)→0≤o.lo∧o.lo≤63∧o.lo<o.hi∧o.hi≤64)):=place4 o
  refine zN Tryz.func185 G Tryz.ntmps185 Tryz.results185 G fun fr=>?_
  repeat (first|refine zF ?_|refine zB ?_|refine zE ?_|refine zK G G G ?_|refine L_ldA G (vs:=[_,_,_,_,_,_,_,_,_,_,_,_,_,_,_,_,_]) G G G G G ?_|refine L_box G (c:=[_,_,_,_,_,_,_,_,_,_,_,_,_,_,_,_,_]) G G G (fun _=>?_))
  refine zY G G (zQ G G G) hrow ?_
  rintro _ _ ⟨h,ho,rfl⟩
  obtain ⟨a5,c5,rfl⟩:=ho.shape
  have hr:RdL w0 (X+h) (.slice a5 (rowR o).length c5) (rowR o):=ho.rd (R:=X)
  obtain ⟨b5,o5,rfl,e,he5,hat⟩:=hr.at (i:=4) (by show 4<10; omega)
  obtain rfl:e=[.int .i64 o.lo]:=he5
  repeat (refine zK G G G ?_)
  refine yH G G (pv_indexAddr (i:=4) G G (by show 4<10; omega)) ?_
  repeat (first|refine zF ?_|refine zR ?_|refine zB ?_|refine zE ?_|refine zK G G G ?_|refine L_at G (by assumption) G G G G ?_)
  refine L_no G G (pv_eql G G) (by decide) ?_
  repeat (first|refine zF ?_|refine zB ?_|refine zE ?_|refine zK G G G ?_|refine zI G ?_)
  refine L_no G G (pv_eql G G) (by decide) ?_
  repeat (first|refine zF ?_|refine zB ?_|refine zE ?_|refine zK G G G ?_|refine zI G ?_)
  refine L_yes G G (pv_eql G G) (by decide) ?_
  repeat (first|refine zF ?_|refine zB ?_|refine zE ?_|refine zK G G G ?_|refine zZ G G G G G ?_|refine L_ld G G G G G ?_|refine zP ?_|refine zJ G ?_)
  refine yG G G (pv_eql G G) (fun c1=>?_) (fun c2=>?_)
  ·repeat (first|refine zK G G G ?_|refine zZ G G G G G ?_|refine L_ld G G G G G ?_)
   refine yG G G (pv_eql G G) (fun c1=>?_) (fun c2=>?_)
   ·repeat (first|refine zF ?_|refine zB ?_|refine zE ?_|refine zK G G G ?_|refine zJ G ?_)
    refine yG G G (pv_eql G G) (fun c1=>?_) (fun c2=>?_)
    ·repeat (first|refine zE ?_|refine zK G G G ?_|refine zM ?_)
     exact ⟨[_],X,_,⟨rfl,trivial⟩,⟨bool_T (hp.2 (by omega)),rfl⟩,yK.out⟩
    ·repeat (first|refine zE ?_|refine zK G G G ?_|refine zM ?_)
     exact ⟨[_],X,_,⟨rfl,trivial⟩,⟨bool_F (fun h=>absurd (hp.1 h) (by omega)),rfl⟩,yK.out⟩
   ·repeat (first|refine zF ?_|refine zB ?_|refine zE ?_|refine zK G G G ?_|refine zZ G G G G G ?_|refine L_ld G G G G G ?_|refine zP ?_|refine zI G ?_)
    refine L_callD G G (zQ G G G) (between21_spec w0 o.lo 0 63) (fun c1=>?_) (fun c2=>?_)
    ·repeat (first|refine zK G G G ?_|refine zZ G G G G G ?_|refine L_ld G G G G G ?_)
     refine yG G G (pv_gtr G G) (fun c1=>?_) (fun c2=>?_)
     ·repeat (first|refine zK G G G ?_|refine zZ G G G G G ?_|refine L_ld G G G G G ?_)
      refine yG G G (pv_leq G G) (fun c1=>?_) (fun c2=>?_)
      ·repeat (first|refine zE ?_|refine zK G G G ?_|refine zM ?_)
       exact ⟨[_],X,_,⟨rfl,trivial⟩,⟨bool_T (hp.2 (by omega)),rfl⟩,yK.out⟩
      ·repeat (first|refine zE ?_|refine zK G G G ?_|refine zM ?_)
       exact ⟨[_],X,_,⟨rfl,trivial⟩,⟨bool_F (fun h=>absurd (hp.1 h) (by omega)),rfl⟩,yK.out⟩
     ·repeat (first|refine zE ?_|refine zK G G G ?_|refine L_skip G G ?_|refine zM ?_)
      exact ⟨[_],X,_,⟨rfl,trivial⟩,⟨bool_F (fun h=>absurd (hp.1 h) (by omega)),rfl⟩,yK.out⟩
    ·repeat (first|refine zE ?_|refine zK G G G ?_|refine L_skip G G ?_|refine zM ?_)
     exact ⟨[_],X,_,⟨rfl,trivial⟩,⟨bool_F (fun h=>absurd (hp.1 h) (by omega)),rfl⟩,yK.out⟩
  ·repeat (first|refine zF ?_|refine zB ?_|refine zE ?_|refine zK G G G ?_|refine zZ G G G G G ?_|refine L_ld G G G G G ?_|refine L_skip G G ?_|refine zP ?_|refine zI G ?_)
   refine L_callD G G (zQ G G G) (between21_spec w0 o.lo 0 63) (fun c1=>?_) (fun c2=>?_)
   ·repeat (first|refine zK G G G ?_|refine zZ G G G G G ?_|refine L_ld G G G G G ?_)
    refine yG G G (pv_gtr G G) (fun c1=>?_) (fun c2=>?_)
    ·repeat (first|refine zK G G G ?_|refine zZ G G G G G ?_|refine L_ld G G G G G ?_)
     refine yG G G (pv_leq G G) (fun c1=>?_) (fun c2=>?_)
     ·repeat (first|refine zE ?_|refine zK G G G ?_|refine zM ?_)
      exact ⟨[_],X,_,⟨rfl,trivial⟩,⟨bool_T (hp.2 (by omega)),rfl⟩,yK.out⟩
     ·repeat (first|refine zE ?_|refine zK G G G ?_|refine zM ?_)
      exact ⟨[_],X,_,⟨rfl,trivial⟩,⟨bool_F (fun h=>absurd (hp.1 h) (by omega)),rfl⟩,yK.out⟩
    ·repeat (first|refine zE ?_|refine zK G G G ?_|refine L_skip G G ?_|refine zM ?_)
     exact ⟨[_],X,_,⟨rfl,trivial⟩,⟨bool_F (fun h=>absurd (hp.1 h) (by omega)),rfl⟩,yK.out⟩
   ·repeat (first|refine zE ?_|refine zK G G G ?_|refine L_skip G G ?_|refine zM ?_)
    exact ⟨[_],X,_,⟨rfl,trivial⟩,⟨bool_F (fun h=>absurd (hp.1 h) (by omega)),rfl⟩,yK.out⟩
 ·have hp:PlaceR o 5↔((o.kind=2∧o.snap=0→o.hi=0)∧(¬ (o.kind=2∧o.snap=0)→0≤o.lo∧o.lo≤63∧o.lo<o.hi∧o.hi≤64)):=place5 o
  refine zN Tryz.func185 G Tryz.ntmps185 Tryz.results185 G fun fr=>?_
  repeat (first|refine zF ?_|refine zB ?_|refine zE ?_|refine zK G G G ?_|refine L_ldA G (vs:=[_,_,_,_,_,_,_,_,_,_,_,_,_,_,_,_,_]) G G G G G ?_|refine L_box G (c:=[_,_,_,_,_,_,_,_,_,_,_,_,_,_,_,_,_]) G G G (fun _=>?_))
  refine zY G G (zQ G G G) hrow ?_
  rintro _ _ ⟨h,ho,rfl⟩
  obtain ⟨a5,c5,rfl⟩:=ho.shape
  have hr:RdL w0 (X+h) (.slice a5 (rowR o).length c5) (rowR o):=ho.rd (R:=X)
  obtain ⟨b5,o5,rfl,e,he5,hat⟩:=hr.at (i:=5) (by show 5<10; omega)
  obtain rfl:e=[.int .i64 o.hi]:=he5
  repeat (refine zK G G G ?_)
  refine yH G G (pv_indexAddr (i:=5) G G (by show 5<10; omega)) ?_
  repeat (first|refine zF ?_|refine zR ?_|refine zB ?_|refine zE ?_|refine zK G G G ?_|refine L_at G (by assumption) G G G G ?_)
  refine L_no G G (pv_eql G G) (by decide) ?_
  repeat (first|refine zF ?_|refine zB ?_|refine zE ?_|refine zK G G G ?_|refine zI G ?_)
  refine L_no G G (pv_eql G G) (by decide) ?_
  repeat (first|refine zF ?_|refine zB ?_|refine zE ?_|refine zK G G G ?_|refine zI G ?_)
  refine L_no G G (pv_eql G G) (by decide) ?_
  repeat (first|refine zB ?_|refine zE ?_|refine zK G G G ?_|refine zI G ?_)
  refine L_yes G G (pv_eql G G) (by decide) ?_
  repeat (first|refine zF ?_|refine zB ?_|refine zE ?_|refine zK G G G ?_|refine zZ G G G G G ?_|refine L_ld G G G G G ?_|refine zJ G ?_)
  refine yG G G (pv_eql G G) (fun c1=>?_) (fun c2=>?_)
  ·repeat (first|refine zK G G G ?_|refine zZ G G G G G ?_|refine L_ld G G G G G ?_)
   refine yG G G (pv_eql G G) (fun c1=>?_) (fun c2=>?_)
   ·repeat (first|refine zF ?_|refine zB ?_|refine zE ?_|refine zK G G G ?_|refine zJ G ?_)
    refine yG G G (pv_eql G G) (fun c1=>?_) (fun c2=>?_)
    ·repeat (first|refine zE ?_|refine zK G G G ?_|refine zM ?_)
     exact ⟨[_],X,_,⟨rfl,trivial⟩,⟨bool_T (hp.2 (by omega)),rfl⟩,yK.out⟩
    ·repeat (first|refine zE ?_|refine zK G G G ?_|refine zM ?_)
     exact ⟨[_],X,_,⟨rfl,trivial⟩,⟨bool_F (fun h=>absurd (hp.1 h) (by omega)),rfl⟩,yK.out⟩
   ·repeat (first|refine zF ?_|refine zB ?_|refine zE ?_|refine zK G G G ?_|refine zZ G G G G G ?_|refine L_ld G G G G G ?_|refine zP ?_|refine zI G ?_)
    refine L_callD G G (zQ G G G) (between21_spec w0 o.lo 0 63) (fun c1=>?_) (fun c2=>?_)
    ·repeat (first|refine zK G G G ?_|refine zZ G G G G G ?_|refine L_ld G G G G G ?_)
     refine yG G G (pv_gtr G G) (fun c1=>?_) (fun c2=>?_)
     ·repeat (first|refine zK G G G ?_|refine zZ G G G G G ?_|refine L_ld G G G G G ?_)
      refine yG G G (pv_leq G G) (fun c1=>?_) (fun c2=>?_)
      ·repeat (first|refine zE ?_|refine zK G G G ?_|refine zM ?_)
       exact ⟨[_],X,_,⟨rfl,trivial⟩,⟨bool_T (hp.2 (by omega)),rfl⟩,yK.out⟩
      ·repeat (first|refine zE ?_|refine zK G G G ?_|refine zM ?_)
       exact ⟨[_],X,_,⟨rfl,trivial⟩,⟨bool_F (fun h=>absurd (hp.1 h) (by omega)),rfl⟩,yK.out⟩
     ·repeat (first|refine zE ?_|refine zK G G G ?_|refine L_skip G G ?_|refine zM ?_)
      exact ⟨[_],X,_,⟨rfl,trivial⟩,⟨bool_F (fun h=>absurd (hp.1 h) (by omega)),rfl⟩,yK.out⟩
    ·repeat (first|refine zE ?_|refine zK G G G ?_|refine L_skip G G ?_|refine zM ?_)
     exact ⟨[_],X,_,⟨rfl,trivial⟩,⟨bool_F (fun h=>absurd (hp.1 h) (by omega)),rfl⟩,yK.out⟩
  ·repeat (first|refine zF ?_|refine zB ?_|refine zE ?_|refine zK G G G ?_|refine zZ G G G G G ?_|refine L_ld G G G G G ?_|refine L_skip G G ?_|refine zP ?_|refine zI G ?_)
   refine L_callD G G (zQ G G G) (between21_spec w0 o.lo 0 63) (fun c1=>?_) (fun c2=>?_)
   ·repeat (first|refine zK G G G ?_|refine zZ G G G G G ?_|refine L_ld G G G G G ?_)
    refine yG G G (pv_gtr G G) (fun c1=>?_) (fun c2=>?_)
    ·repeat (first|refine zK G G G ?_|refine zZ G G G G G ?_|refine L_ld G G G G G ?_)
     refine yG G G (pv_leq G G) (fun c1=>?_) (fun c2=>?_)
     ·repeat (first|refine zE ?_|refine zK G G G ?_|refine zM ?_)
      exact ⟨[_],X,_,⟨rfl,trivial⟩,⟨bool_T (hp.2 (by omega)),rfl⟩,yK.out⟩
     ·repeat (first|refine zE ?_|refine zK G G G ?_|refine zM ?_)
      exact ⟨[_],X,_,⟨rfl,trivial⟩,⟨bool_F (fun h=>absurd (hp.1 h) (by omega)),rfl⟩,yK.out⟩
    ·repeat (first|refine zE ?_|refine zK G G G ?_|refine L_skip G G ?_|refine zM ?_)
     exact ⟨[_],X,_,⟨rfl,trivial⟩,⟨bool_F (fun h=>absurd (hp.1 h) (by omega)),rfl⟩,yK.out⟩
   ·repeat (first|refine zE ?_|refine zK G G G ?_|refine L_skip G G ?_|refine zM ?_)
    exact ⟨[_],X,_,⟨rfl,trivial⟩,⟨bool_F (fun h=>absurd (hp.1 h) (by omega)),rfl⟩,yK.out⟩
 ·have hp:PlaceR o 6↔(0≤o.block∧o.block≤63):=place6 o
  refine zN Tryz.func185 G Tryz.ntmps185 Tryz.results185 G fun fr=>?_
  repeat (first|refine zF ?_|refine zB ?_|refine zE ?_|refine zK G G G ?_|refine L_ldA G (vs:=[_,_,_,_,_,_,_,_,_,_,_,_,_,_,_,_,_]) G G G G G ?_|refine L_box G (c:=[_,_,_,_,_,_,_,_,_,_,_,_,_,_,_,_,_]) G G G (fun _=>?_))
  refine zY G G (zQ G G G) hrow ?_
  rintro _ _ ⟨h,ho,rfl⟩
  obtain ⟨a5,c5,rfl⟩:=ho.shape
  have hr:RdL w0 (X+h) (.slice a5 (rowR o).length c5) (rowR o):=ho.rd (R:=X)
  obtain ⟨b5,o5,rfl,e,he5,hat⟩:=hr.at (i:=6) (by show 6<10; omega)
  obtain rfl:e=[.int .i64 o.block]:=he5
  repeat (refine zK G G G ?_)
  refine yH G G (pv_indexAddr (i:=6) G G (by show 6<10; omega)) ?_
  repeat (first|refine zF ?_|refine zR ?_|refine zB ?_|refine zE ?_|refine zK G G G ?_|refine L_at G (by assumption) G G G G ?_)
  refine L_no G G (pv_eql G G) (by decide) ?_
  repeat (first|refine zF ?_|refine zB ?_|refine zE ?_|refine zK G G G ?_|refine zI G ?_)
  refine L_no G G (pv_eql G G) (by decide) ?_
  repeat (first|refine zF ?_|refine zB ?_|refine zE ?_|refine zK G G G ?_|refine zI G ?_)
  refine L_no G G (pv_eql G G) (by decide) ?_
  repeat (first|refine zB ?_|refine zE ?_|refine zK G G G ?_|refine zI G ?_)
  refine L_no G G (pv_eql G G) (by decide) ?_
  repeat (first|refine zF ?_|refine zB ?_|refine zE ?_|refine zK G G G ?_|refine zI G ?_)
  refine L_yes G G (pv_eql G G) (by decide) ?_
  repeat (first|refine zF ?_|refine zB ?_|refine zE ?_|refine zK G G G ?_|refine zJ G ?_)
  refine L_callD G G (zQ G G G) (between21_spec w0 o.block 0 63) (fun c1=>?_) (fun c2=>?_)
  ·repeat (first|refine zE ?_|refine zK G G G ?_|refine zM ?_)
   exact ⟨[_],X,_,⟨rfl,trivial⟩,⟨bool_T (hp.2 (by omega)),rfl⟩,yK.out⟩
  ·repeat (first|refine zE ?_|refine zK G G G ?_|refine zM ?_)
   exact ⟨[_],X,_,⟨rfl,trivial⟩,⟨bool_F (fun h=>absurd (hp.1 h) (by omega)),rfl⟩,yK.out⟩
 ·have hp:PlaceR o 7↔(1≤o.value∧o.value≤2):=place7 o
  refine zN Tryz.func185 G Tryz.ntmps185 Tryz.results185 G fun fr=>?_
  repeat (first|refine zF ?_|refine zB ?_|refine zE ?_|refine zK G G G ?_|refine L_ldA G (vs:=[_,_,_,_,_,_,_,_,_,_,_,_,_,_,_,_,_]) G G G G G ?_|refine L_box G (c:=[_,_,_,_,_,_,_,_,_,_,_,_,_,_,_,_,_]) G G G (fun _=>?_))
  refine zY G G (zQ G G G) hrow ?_
  rintro _ _ ⟨h,ho,rfl⟩
  obtain ⟨a5,c5,rfl⟩:=ho.shape
  have hr:RdL w0 (X+h) (.slice a5 (rowR o).length c5) (rowR o):=ho.rd (R:=X)
  obtain ⟨b5,o5,rfl,e,he5,hat⟩:=hr.at (i:=7) (by show 7<10; omega)
  obtain rfl:e=[.int .i64 o.value]:=he5
  repeat (refine zK G G G ?_)
  refine yH G G (pv_indexAddr (i:=7) G G (by show 7<10; omega)) ?_
  repeat (first|refine zF ?_|refine zR ?_|refine zB ?_|refine zE ?_|refine zK G G G ?_|refine L_at G (by assumption) G G G G ?_)
  refine L_no G G (pv_eql G G) (by decide) ?_
  repeat (first|refine zF ?_|refine zB ?_|refine zE ?_|refine zK G G G ?_|refine zI G ?_)
  refine L_no G G (pv_eql G G) (by decide) ?_
  repeat (first|refine zF ?_|refine zB ?_|refine zE ?_|refine zK G G G ?_|refine zI G ?_)
  refine L_no G G (pv_eql G G) (by decide) ?_
  repeat (first|refine zB ?_|refine zE ?_|refine zK G G G ?_|refine zI G ?_)
  refine L_no G G (pv_eql G G) (by decide) ?_
  repeat (first|refine zF ?_|refine zB ?_|refine zE ?_|refine zK G G G ?_|refine zI G ?_)
  refine L_no G G (pv_eql G G) (by decide) ?_
  repeat (first|refine zF ?_|refine zB ?_|refine zE ?_|refine zK G G G ?_|refine zI G ?_)
  refine L_yes G G (pv_eql G G) (by decide) ?_
  repeat (first|refine zF ?_|refine zB ?_|refine zE ?_|refine zK G G G ?_|refine zJ G ?_)
  refine L_callD G G (zQ G G G) (between21_spec w0 o.value 1 2) (fun c1=>?_) (fun c2=>?_)
  ·repeat (first|refine zE ?_|refine zK G G G ?_|refine zM ?_)
   exact ⟨[_],X,_,⟨rfl,trivial⟩,⟨bool_T (hp.2 (by omega)),rfl⟩,yK.out⟩
  ·repeat (first|refine zE ?_|refine zK G G G ?_|refine zM ?_)
   exact ⟨[_],X,_,⟨rfl,trivial⟩,⟨bool_F (fun h=>absurd (hp.1 h) (by omega)),rfl⟩,yK.out⟩
 ·have hp:PlaceR o 8↔(1≤o.src∧o.src≤4):=place8 o
  refine zN Tryz.func185 G Tryz.ntmps185 Tryz.results185 G fun fr=>?_
  repeat (first|refine zF ?_|refine zB ?_|refine zE ?_|refine zK G G G ?_|refine L_ldA G (vs:=[_,_,_,_,_,_,_,_,_,_,_,_,_,_,_,_,_]) G G G G G ?_|refine L_box G (c:=[_,_,_,_,_,_,_,_,_,_,_,_,_,_,_,_,_]) G G G (fun _=>?_))
  refine zY G G (zQ G G G) hrow ?_
  rintro _ _ ⟨h,ho,rfl⟩
  obtain ⟨a5,c5,rfl⟩:=ho.shape
  have hr:RdL w0 (X+h) (.slice a5 (rowR o).length c5) (rowR o):=ho.rd (R:=X)
  obtain ⟨b5,o5,rfl,e,he5,hat⟩:=hr.at (i:=8) (by show 8<10; omega)
  obtain rfl:e=[.int .i64 o.src]:=he5
  repeat (refine zK G G G ?_)
  refine yH G G (pv_indexAddr (i:=8) G G (by show 8<10; omega)) ?_
  repeat (first|refine zF ?_|refine zR ?_|refine zB ?_|refine zE ?_|refine zK G G G ?_|refine L_at G (by assumption) G G G G ?_)
  refine L_no G G (pv_eql G G) (by decide) ?_
  repeat (first|refine zF ?_|refine zB ?_|refine zE ?_|refine zK G G G ?_|refine zI G ?_)
  refine L_no G G (pv_eql G G) (by decide) ?_
  repeat (first|refine zF ?_|refine zB ?_|refine zE ?_|refine zK G G G ?_|refine zI G ?_)
  refine L_no G G (pv_eql G G) (by decide) ?_
  repeat (first|refine zB ?_|refine zE ?_|refine zK G G G ?_|refine zI G ?_)
  refine L_no G G (pv_eql G G) (by decide) ?_
  repeat (first|refine zF ?_|refine zB ?_|refine zE ?_|refine zK G G G ?_|refine zI G ?_)
  refine L_no G G (pv_eql G G) (by decide) ?_
  repeat (first|refine zF ?_|refine zB ?_|refine zE ?_|refine zK G G G ?_|refine zI G ?_)
  refine L_no G G (pv_eql G G) (by decide) ?_
  repeat (first|refine zF ?_|refine zB ?_|refine zE ?_|refine zK G G G ?_|refine zI G ?_)
  refine L_yes G G (pv_eql G G) (by decide) ?_
  repeat (first|refine zF ?_|refine zB ?_|refine zE ?_|refine zK G G G ?_|refine zJ G ?_)
  refine L_callD G G (zQ G G G) (between21_spec w0 o.src 1 4) (fun c1=>?_) (fun c2=>?_)
  ·repeat (first|refine zE ?_|refine zK G G G ?_|refine zM ?_)
   exact ⟨[_],X,_,⟨rfl,trivial⟩,⟨bool_T (hp.2 (by omega)),rfl⟩,yK.out⟩
  ·repeat (first|refine zE ?_|refine zK G G G ?_|refine zM ?_)
   exact ⟨[_],X,_,⟨rfl,trivial⟩,⟨bool_F (fun h=>absurd (hp.1 h) (by omega)),rfl⟩,yK.out⟩
 ·have hp:PlaceR o 9↔((1≤o.dst∧o.dst≤4)∨(o.kind=11∧1≤o.dst∧o.dst≤7)):=place9 o
  refine zN Tryz.func185 G Tryz.ntmps185 Tryz.results185 G fun fr=>?_
  repeat (first|refine zF ?_|refine zB ?_|refine zE ?_|refine zK G G G ?_|refine L_ldA G (vs:=[_,_,_,_,_,_,_,_,_,_,_,_,_,_,_,_,_]) G G G G G ?_|refine L_box G (c:=[_,_,_,_,_,_,_,_,_,_,_,_,_,_,_,_,_]) G G G (fun _=>?_))
  refine zY G G (zQ G G G) hrow ?_
  rintro _ _ ⟨h,ho,rfl⟩
  obtain ⟨a5,c5,rfl⟩:=ho.shape
  have hr:RdL w0 (X+h) (.slice a5 (rowR o).length c5) (rowR o):=ho.rd (R:=X)
  obtain ⟨b5,o5,rfl,e,he5,hat⟩:=hr.at (i:=9) (by show 9<10; omega)
  obtain rfl:e=[.int .i64 o.dst]:=he5
  repeat (refine zK G G G ?_)
  refine yH G G (pv_indexAddr (i:=9) G G (by show 9<10; omega)) ?_
  repeat (first|refine zF ?_|refine zR ?_|refine zB ?_|refine zE ?_|refine zK G G G ?_|refine L_at G (by assumption) G G G G ?_)
  refine L_no G G (pv_eql G G) (by decide) ?_
  repeat (first|refine zF ?_|refine zB ?_|refine zE ?_|refine zK G G G ?_|refine zI G ?_)
  refine L_no G G (pv_eql G G) (by decide) ?_
  repeat (first|refine zF ?_|refine zB ?_|refine zE ?_|refine zK G G G ?_|refine zI G ?_)
  refine L_no G G (pv_eql G G) (by decide) ?_
  repeat (first|refine zB ?_|refine zE ?_|refine zK G G G ?_|refine zI G ?_)
  refine L_no G G (pv_eql G G) (by decide) ?_
  repeat (first|refine zF ?_|refine zB ?_|refine zE ?_|refine zK G G G ?_|refine zI G ?_)
  refine L_no G G (pv_eql G G) (by decide) ?_
  repeat (first|refine zF ?_|refine zB ?_|refine zE ?_|refine zK G G G ?_|refine zI G ?_)
  refine L_no G G (pv_eql G G) (by decide) ?_
  repeat (first|refine zF ?_|refine zB ?_|refine zE ?_|refine zK G G G ?_|refine zI G ?_)
  refine L_no G G (pv_eql G G) (by decide) ?_
  repeat (first|refine zF ?_|refine zB ?_|refine zE ?_|refine zK G G G ?_|refine zI G ?_)
  refine L_yes G G (pv_eql G G) (by decide) ?_
  repeat (first|refine zF ?_|refine zB ?_|refine zE ?_|refine zK G G G ?_|refine zJ G ?_)
  refine L_callD G G (zQ G G G) (between21_spec w0 o.dst 1 4) (fun c1=>?_) (fun c2=>?_)
  ·repeat (first|refine zE ?_|refine zK G G G ?_|refine L_skip G G ?_|refine zM ?_)
   exact ⟨[_],X,_,⟨rfl,trivial⟩,⟨bool_T (hp.2 (by omega)),rfl⟩,yK.out⟩
  ·repeat (first|refine zK G G G ?_|refine zZ G G G G G ?_|refine L_ld G G G G G ?_)
   refine yG G G (pv_eql G G) (fun c1=>?_) (fun c2=>?_)
   ·repeat (refine zK G G G ?_)
    refine L_callD G G (zQ G G G) (between21_spec w0 o.dst 1 7) (fun c1=>?_) (fun c2=>?_)
    ·repeat (first|refine zE ?_|refine zK G G G ?_|refine zM ?_)
     exact ⟨[_],X,_,⟨rfl,trivial⟩,⟨bool_T (hp.2 (by omega)),rfl⟩,yK.out⟩
    ·repeat (first|refine zE ?_|refine zK G G G ?_|refine zM ?_)
     exact ⟨[_],X,_,⟨rfl,trivial⟩,⟨bool_F (fun h=>absurd (hp.1 h) (by omega)),rfl⟩,yK.out⟩
   ·repeat (first|refine zE ?_|refine zK G G G ?_|refine L_skip G G ?_|refine zM ?_)
    exact ⟨[_],X,_,⟨rfl,trivial⟩,⟨bool_F (fun h=>absurd (hp.1 h) (by omega)),rfl⟩,yK.out⟩
end Sl
end Go.Proofs.YtpkealohodeifaaGreat
