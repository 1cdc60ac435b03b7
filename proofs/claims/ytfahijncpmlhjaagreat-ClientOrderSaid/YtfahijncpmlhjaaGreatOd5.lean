/-
  What clientOrder.proved hangs on, part 5 of 7: ClSz, NilM, ClPh, ClPi, ClPj, ClPk2, ClWq, ClNa, ClXa, ClWr, ClWs, ClWt, ClWu, ClWv, ClQa, ClQc.
-/
import Derived.Test.YtfahijncpmlhjaaGreatOd4
import Derived.Test.YtfahijncpmlhjaaGreatOd2
import Derived.Test.YtfahijncpmlhjaaGreatOd3
import Derived.LaidEqlPtr
set_option linter.unusedVariables false
set_option linter.unusedSimpArgs false
namespace Go.Proofs.YtfahijncpmlhjaaGreat
open Go Go.RowKit
namespace Sl
structure CalSz (x:Cal):Prop where
 block:I64 x.block
 snap:I64 x.snap
 src:I64 x.src
 dst:I64 x.dst
 lo:I64 x.lo
 hi:I64 x.hi
 node:I64 x.node
 value:I64 x.value
def HrdSz :Hrd→Prop
 | .quiet=>True
 | .look=>True
 | .read b=>I64 b
 | .part o _=>OpSz o
 | .kept x=>CalSz x
 | .plan x=>CalSz x
 | .frz x e=>CalSz x∧I64 e
 | .inst x e=>CalSz x∧I64 e
 | .fin x e=>CalSz x∧I64 e
 | .change x=>CalSz x
def WtsSz :Option Wts→Prop
 | some (.read x)=>CalSz x
 | some (.kept x)=>CalSz x
 | some (.again x)=>CalSz x
 | _=>True
structure TxnSz (n:Nat) (t:Txn):Prop where
 nums:I64 t.id∧I64 t.age∧I64 t.slo∧I64 t.shi
 parts:t.parts.length≤4
 asked:t.asked.length≤n
 reads:t.reads.length≤n∧∀ r∈t.reads,r.data.length≤1000000
 writes:t.writes.length≤8∧(∀ w∈t.writes,w.data.length≤1000000)∧RisesW t.writes
structure MppSz (m:Mpp):Prop where
 len:m.rngs.length≤4
 nodup:(m.rngs.map (·.group)).Nodup
 ep:∀ r∈m.rngs,I64 r.epoch
 m1:I64 m.m1
structure CooSz (n:Nat) (k:Coo):Prop where
 parts:k.parts.length≤4
 acc:0≤k.acc∧k.acc≤7
 accepted:∀ x∈k.accepted,x.2.length≤n
 promised:∀ x∈k.promised,x.2.length≤n
 top:0≤k.top∧k.top≤9223372036854775807
def CoSz (n:Nat) (o:Option Coo):Prop:=∀ k,o=some k→CooSz n k
def DbSz (n:Nat) (l:List Dbt):Prop:=l.length≤n∧∀ d∈l,d.groups.length≤5
def NumSz (n:Nat) (round started since txns nodes:Int) (guess:List Int):Prop :=
 (0≤round∧round≤9000000000000+n)∧(0≤started∧started≤n)∧(0≤since∧since≤n)∧(0≤txns∧txns≤1048575)∧(1≤nodes∧nodes≤7)∧∀ g∈guess,0≤g∧g≤1000
def SetSz (l:List Spn):Prop:=l.length≤1000∧∀ s∈l,I64 s.lo∧I64 s.hi
structure Sz (n:Nat) (c:Cl):Prop where
 bd:Bd n c
 hrd:∀ r∈c.reqs.map core,HrdSz r.heard
 sent:∀ r∈c.reqs,-1≤r.sent∧r.sent≤n
 m:MppSz c.m
 cur:TxnSz n c.cur
 db:DbSz n c.doubts
 co:CoSz n c.coord
 wts:WtsSz c.waits
 num:NumSz n c.round c.started c.since c.txns c.nodes c.guess
 sets:SetSz c.sets
theorem TxnSz.mono {n m:Nat} {t:Txn} (h:TxnSz n t) (e:n≤m):TxnSz m t:=⟨h.nums,h.parts,Nat.le_trans h.asked e,⟨Nat.le_trans h.reads.1 e,h.reads.2⟩,h.writes⟩
theorem CooSz.mono {n m:Nat} {t:Coo} (h:CooSz n t) (e:n≤m):CooSz m t:=⟨h.parts,h.acc,fun x hx=>Nat.le_trans (h.accepted x hx) e,fun x hx=>Nat.le_trans (h.promised x hx) e,h.top⟩
theorem NumSz.mono {n m:Nat} {a b c d f:Int} {g:List Int} (h:NumSz n a b c d f g) (e:n≤m):NumSz m a b c d f g:=by
 obtain ⟨h1,h2,h3,h4,h5,h6⟩:=h
 exact ⟨by omega,by omega,by omega,h4,h5,h6⟩
theorem Sz.mono {n m:Nat} {c:Cl} (h:Sz n c) (e:n≤m):Sz m c :=
 ⟨h.bd.mono e,h.hrd,fun r hr=>⟨(h.sent r hr).1,by have:=(h.sent r hr).2; omega⟩,h.m,h.cur.mono e,⟨Nat.le_trans h.db.1 e,h.db.2⟩,fun k hk=>(h.co k hk).mono e,h.wts,h.num.mono e,h.sets⟩
theorem nodup_len :∀ (k:Nat) (l:List Int),l.Nodup→(∀ x∈l,1≤x∧x≤k)→l.length≤k
 | 0,[],_,_=>Nat.le_refl _
 | 0,x::l,_,h=>by have:=h x (by simp); omega
 | k+1,l,hn,h=>by
  have h1:=nodup_len k (l.erase ((k:Int)+1)) (hn.erase _) (fun x hx=>by
   have hx2:=(hn.mem_erase_iff).1 hx
   have:=h x hx2.2
   have:=hx2.1
   omega)
  have h2:l.length≤(l.erase ((k:Int)+1)).length+1:=by rw [List.length_erase]; split<;>omega
  omega
theorem firstF_pair (l:List Rq):((firstF l).map fun i=>(match l[i]? with|some r=>(r.group:Int)+1|none=>0)).Nodup:=by
 unfold List.Nodup
 rw [List.pairwise_map]
 have h0:(firstF l).Pairwise (·<·):=List.pairwise_lt_range.filter _
 refine List.Pairwise.imp_of_mem ?_ h0
 intro i j hi hj hij e
 have hil:=firstF_lt hi
 have hjl:=firstF_lt hj
 unfold firstF at hj
 have hj2:=(List.mem_filter.1 hj).2
 rw [List.getElem?_eq_getElem hjl] at hj2 e
 rw [List.getElem?_eq_getElem hil] at e
 simp only [List.all_eq_true] at hj2
 have hm:l[i]∈l.take j:=by
  rw [List.mem_take_iff_getElem]
  exact ⟨i,by omega,rfl⟩
 have:=hj2 _ hm
 simp only [ne_eq,decide_not,Bool.not_eq_true',decide_eq_false_iff_not] at this
 exact this (by simp only at e; omega)
theorem firstF_five {l:List Rq} (hg:∀ r∈l,r.group<5):(firstF l).length≤5:=by
 have:=nodup_len 5 _ (firstF_pair l) (by
  intro x hx
  obtain ⟨i,hi,rfl⟩:=List.mem_map.1 hx
  have hil:=firstF_lt hi
  rw [List.getElem?_eq_getElem hil]
  have:=hg _ (List.getElem_mem hil)
  show 1≤((l[i].group:Int)+1)∧((l[i].group:Int)+1)≤((5:Nat):Int)
  omega)
 rwa [List.length_map] at this
theorem sorted_sortI (l:List Int):(sortI l).Pairwise (·≤·):=by
 have:=List.pairwise_mergeSort (le:=fun x y:Int=>decide (x≤y)) (fun a b c h1 h2=>by simp at h1 h2 ⊢; omega) (fun a b=>by simp; omega) l
 unfold sortI
 refine this.imp ?_
 intro a b h; simpa using h
theorem compUpTo_le {l:List Int} (hs:l.Pairwise (·≤·)) (h0:∀ x∈l,0≤x):∀ (m:Nat) (hm:m<l.length),((Lib.compactUpTo l.toArray (m+1)).length:Int)≤l[m]+1
 | 0,hm=>by
  have:=h0 _ (List.getElem_mem hm)
  have h1:(Lib.compactUpTo l.toArray 1).length≤1:=by
   unfold Lib.compactUpTo
   rw [List.length_map]
   exact Nat.le_trans (List.length_filter_le _ _) (by simp)
  show ((Lib.compactUpTo l.toArray 1).length:Int)≤l[0]+1
  omega
 | m+1,hm=>by
  have ih:=compUpTo_le hs h0 m (by omega)
  have hle:l[m]≤l[m+1]:=List.pairwise_iff_getElem.1 hs m (m+1) (by omega) hm (by omega)
  rw [Lib.compactUpTo_succ,List.length_append]
  split
  ·rename_i hk
   have hne:l[m+1]≠l[m]:=by
    unfold Lib.keeps at hk
    simp only [Nat.add_eq_zero_iff,Nat.one_ne_zero,and_false,Nat.add_sub_cancel] at hk
    have e1:(l.toArray)[m+1]! = l[m+1]:=by simp [hm]
    have e2:(l.toArray)[m]! = l[m]:=by simp [show m<l.length by omega]
    simpa [e1,e2] using hk
   simp only [List.length_singleton]; omega
  ·simp only [List.length_nil]; omega
theorem groupsF_five {c:Cl} (hf:Fine c):(groupsF c.cur).length≤5:=by
 have hg:∀ x∈sortI (c.cur.parts++c.cur.asked),grp x:=by
  intro x hx
  rcases List.mem_append.1 (List.mem_mergeSort.1 hx) with h|h
  ·exact hf.parts x h
  ·exact hf.asked x h
 unfold groupsF compI Lib.compact
 have hs:=sorted_sortI (c.cur.parts++c.cur.asked)
 generalize sortI (c.cur.parts++c.cur.asked)=l at hg hs
 cases hl:l.length with
 | zero=>simp [Lib.compactUpTo]
 | succ m =>
  have h1:=compUpTo_le hs (fun x hx=>(hg x hx).1) m (by omega)
  have:=(hg _ (List.getElem_mem (show m<l.length by omega))).2
  omega
theorem rises_len :∀ {l:List Int} {last:Int},0≤last→risesF l last=true→(l.length:Int)≤max (4 - last) 0
 | [],last,h0,h=>by simp only [List.length_nil]; omega
 | p::l,last,h0,h=>by
  simp only [risesF,Bool.and_eq_true,decide_eq_true_eq] at h
  have:=rises_len (l:=l) (last:=p) (by omega) h.2
  simp only [List.length_cons]; omega
theorem newOk_parts {me txn:Int} {parts:List Int} {acc:Int} (h:newOk me txn parts acc=true):parts.length≤4∧1≤acc∧acc≤7∧1≤txn∧txn≤1099511627776:=by
 unfold newOk at h
 simp only [Bool.and_eq_true,decide_eq_true_eq] at h
 have:=rises_len (Int.le_refl 0) h.2
 omega
theorem chain_sz :∀ {l:List Rng} {a:Int} {had:List Int} {n e:Int},chainF l a had n=some e→(l.map (·.group)).Nodup∧(∀ r∈l,r.group∉had∧1≤r.group∧r.group≤4∧1≤r.epoch∧r.epoch≤n)
 | [],_,_,_,_,_=>by simp
 | r::l,a,had,n,e,h=>by
  simp only [chainF] at h
  split at h
  ·cases h
  ·rename_i hn
   simp only [not_or] at hn
   obtain ⟨h1,h2⟩:=chain_sz h
   refine ⟨?_,?_⟩
   ·rw [List.map_cons,List.nodup_cons]
    refine ⟨fun hm=>?_,h1⟩
    obtain ⟨q,hq,e1⟩:=List.mem_map.1 hm
    have:=(h2 q hq).1
    rw [e1] at this
    exact this (by simp)
   ·intro q hq
    rcases List.mem_cons.1 hq with rfl|hq
    ·exact ⟨hn.2.2.2.2.2.1,by omega,by omega,by omega,by omega⟩
    ·have:=h2 q hq
     exact ⟨fun hh=>this.1 (by simp [hh]),this.2⟩
theorem checkR_sz {m:Mpp} (h:checkR m=0):MppSz m:=by
 unfold checkR at h
 split at h
 ·omega
 ·rename_i e he
  obtain ⟨h1,h2⟩:=chain_sz he
  have hlen:m.rngs.length≤4:=by
   have:=nodup_len 4 _ h1 (by intro x hx; obtain ⟨r,hr,rfl⟩:=List.mem_map.1 hx; have:=h2 r hr; omega)
   rwa [List.length_map] at this
  split at h
  ·omega
  ·rename_i hn1
   simp only [not_or] at hn1
   have hne:∃ r,r∈m.rngs:=by
    cases hr:m.rngs with
    | nil=>rw [hr] at he; simp only [chainF,Option.some.injEq] at he; omega
    | cons r l=>exact ⟨r,by simp⟩
   obtain ⟨r0,hr0⟩:=hne
   have hr0:=h2 r0 hr0
   split at h
   ·rename_i hmv
    have hm:leastF m=m.epoch:=by unfold leastF; rw [if_neg (by rw [hmv]; simp)]
    rw [hm] at h2
    have:m.m1=0:=by
     unfold moved at hmv
     simp only [decide_eq_false_iff_not,Decidable.not_not] at hmv
     exact hmv.1
    exact ⟨hlen,h1,fun r hr=>by have:=h2 r hr; unfold I64; omega,by unfold I64; omega⟩
   ·split at h
    ·omega
    ·rename_i hn2
     simp only [not_or,ne_eq,Decidable.not_not] at hn2
     have hlt:leastF m<1099511627776:=by
      have hp:=hn2.1
      unfold plannedF at hp
      repeat' (split at hp)
      all_goals omega
     exact ⟨hlen,h1,fun r hr=>by have:=h2 r hr; unfold I64; omega,by unfold I64; omega⟩
theorem noMap_sz :MppSz noMap:=⟨by simp [noMap],by simp [noMap],by simp [noMap],by unfold I64; simp [noMap]⟩
theorem getMap_sz (b:List Bt):MppSz (getMapF b).1:=by
 unfold getMapF
 split
 ·exact noMap_sz
 ·simp only
  split
  ·exact noMap_sz
  ·split
   ·exact noMap_sz
   ·rename_i h3
    simp only [ne_eq,Decidable.not_not] at h3
    exact checkR_sz h3
section
variable {n:Nat} {c:Cl}
theorem Sz.free (h:Sz n c) {opn own busy answered stale:Bool} {kind about:Int} {ans:Ans} {ended:List (Int × Int)} :
  Sz n { c with opn:=opn,own:=own,busy:=busy,kind:=kind,ans:=ans,answered:=answered,ended:=ended,stale:=stale,about:=about } :=
 ⟨⟨h.bd.seq,h.bd.clock,h.bd.reqs,h.bd.ops,h.bd.out,h.bd.id⟩,h.hrd,h.sent,h.m,h.cur,h.db,h.co,h.wts,h.num,h.sets⟩
theorem Sz.wait (h:Sz n c) {w:Option Wts} (hw:WtsSz w):Sz n { c with waits:=w }:=⟨⟨h.bd.seq,h.bd.clock,h.bd.reqs,h.bd.ops,h.bd.out,h.bd.id⟩,h.hrd,h.sent,h.m,h.cur,h.db,h.co,hw,h.num,h.sets⟩
theorem Sz.curs (h:Sz n c) {t:Txn} (ht:TxnSz n t):Sz n { c with cur:=t }:=⟨⟨h.bd.seq,h.bd.clock,h.bd.reqs,h.bd.ops,h.bd.out,h.bd.id⟩,h.hrd,h.sent,h.m,ht,h.db,h.co,h.wts,h.num,h.sets⟩
theorem Sz.maps (h:Sz n c) {m:Mpp} (hm:MppSz m):Sz n { c with m:=m }:=⟨⟨h.bd.seq,h.bd.clock,h.bd.reqs,h.bd.ops,h.bd.out,h.bd.id⟩,h.hrd,h.sent,hm,h.cur,h.db,h.co,h.wts,h.num,h.sets⟩
theorem Sz.dbts (h:Sz n c) {l:List Dbt} (hd:DbSz n l):Sz n { c with doubts:=l }:=⟨⟨h.bd.seq,h.bd.clock,h.bd.reqs,h.bd.ops,h.bd.out,h.bd.id⟩,h.hrd,h.sent,h.m,h.cur,hd,h.co,h.wts,h.num,h.sets⟩
theorem Sz.coos (h:Sz n c) {k:Option Coo} (hk:CoSz n k):Sz n { c with coord:=k }:=⟨⟨h.bd.seq,h.bd.clock,h.bd.reqs,h.bd.ops,h.bd.out,h.bd.id⟩,h.hrd,h.sent,h.m,h.cur,h.db,hk,h.wts,h.num,h.sets⟩
theorem Sz.guessed (h:Sz n c) {l:List Int} (hl:∀ g∈l,0≤g∧g≤1000):Sz n { c with guess:=l }:=⟨⟨h.bd.seq,h.bd.clock,h.bd.reqs,h.bd.ops,h.bd.out,h.bd.id⟩,h.hrd,h.sent,h.m,h.cur,h.db,h.co,h.wts,⟨h.num.1,h.num.2.1,h.num.2.2.1,h.num.2.2.2.1,h.num.2.2.2.2.1,hl⟩,h.sets⟩
theorem Sz.rqs (h:Sz n c) {l:List Rq} (hl:l.length≤n) (hs:∀ r∈l,r∈c.reqs):Sz n { c with reqs:=l }:=by
 have hc:∀ r∈l.map core,r∈c.reqs.map core:=fun r hr=>by obtain ⟨q,hq,rfl⟩:=List.mem_map.1 hr; exact List.mem_map.2 ⟨q,hs q hq,rfl⟩
 exact ⟨⟨h.bd.seq,h.bd.clock,hl,fun r hr=>h.bd.ops r (hc r hr),h.bd.out,h.bd.id⟩,fun r hr=>h.hrd r (hc r hr),fun r hr=>h.sent r (hs r hr),h.m,h.cur,h.db,h.co,h.wts,h.num,h.sets⟩
theorem Sz.same {n m:Nat} {c c':Cl} (h:Sz n c) (s:Same c c') (e:n≤m) (ho:c'.out.length≤m) (hs:∀ r∈c'.reqs,-1≤r.sent∧r.sent≤m):Sz m c':=by
 obtain ⟨o,q,rfl,e1⟩:=s
 have h:=h.mono e
 have hl:q.length=c.reqs.length:=by have:=congrArg List.length e1; simpa using this
 exact ⟨⟨h.bd.seq,h.bd.clock,by show q.length≤m; rw [hl]; exact h.bd.reqs,by show ∀ r∈q.map core,_; rw [e1]; exact h.bd.ops,ho,h.bd.id⟩,by show ∀ r∈q.map core,_; rw [e1]; exact h.hrd,hs,h.m,h.cur,h.db,h.co,h.wts,h.num,h.sets⟩
theorem Sz.puts (h:Sz n c) (l:List Msg):Sz (n+l.length) (putsF c l):=by
 have h1:=putsF_same l c
 have h2:=putsF_out l c
 refine h.same h1.1 (by omega) (by have:=h.bd.out; omega) ?_
 rw [h1.2]
 intro r hr; have:=h.sent r hr; omega
theorem mem_sent {l:List Rq} {i:Nat} {t:Int} {r:Rq} (h:r∈l.modify i fun r=>{ r with sent:=t }):r∈l∨r.sent=t:=by
 obtain ⟨j,hj⟩:=List.mem_iff_getElem?.1 h
 rw [List.getElem?_modify] at hj
 cases hl:l[j]? with
 | none=>rw [hl] at hj; cases hj
 | some q =>
  rw [hl] at hj
  by_cases hij:i=j
  ·simp [hij] at hj; right; rw [← hj]
  ·simp [hij] at hj; left; rw [← hj]; exact List.mem_iff_getElem?.2 ⟨j,hl⟩
theorem Sz.send (h:Sz n c) (i:Nat):Sz (n+1) (sendF c i):=by
 refine h.same (sendF_same c i) (by omega) (by have:=sendF_out c i; have:=h.bd.out; omega) ?_
 rw [(sendF_sent c i).1]
 intro r hr
 have hc:=h.bd.clock
 rcases mem_sent hr with h1|h1
 ·have:=h.sent r h1; omega
 ·omega
theorem Sz.sends :∀ (l:List Nat) {n:Nat} {c:Cl},Sz n c→Sz (n+l.length) (sendsF c l)
 | [],n,c,h=>h
 | i::l,n,c,h=>by
  have h1:Sz (n+1) (if dueF c i=true then sendF c i else c):=by
   split
   ·exact h.send i
   ·exact h.mono (by omega)
  have h2:=Sz.sends l h1
  rw [List.length_cons,show n+(l.length+1)=n+1+l.length by omega]
  exact h2
theorem sends_sent :∀ (l:List Nat) {c:Cl} {n:Nat},0≤c.clock→c.clock≤n→(∀ r∈c.reqs,-1≤r.sent∧r.sent≤n)→∀ r∈(sendsF c l).reqs,-1≤r.sent∧r.sent≤n
 | [],c,n,_,_,h=>h
 | i::l,c,n,h0,h1,h=>by
  show ∀ r∈(sendsF (if dueF c i=true then sendF c i else c) l).reqs,_
  have hs:=sendF_sent c i
  refine sends_sent l ?_ ?_ ?_
  ·split
   ·rw [hs.2]; exact h0
   ·exact h0
  ·split
   ·rw [hs.2]; exact h1
   ·exact h1
  ·split
   ·rw [hs.1]
    intro r hr
    rcases mem_sent hr with h2|h2
    ·exact h r h2
    ·omega
   ·exact h
theorem Sz.done (h:Sz n c):Sz n (doneF c):=by
 have h1:Sz (n+c.reqs.length+5) (flushF c):=(h.sends (firstF c.reqs)).mono (by have:=firstF_len c.reqs; omega)
 have hc:=h.bd.clock
 have h2:=sends_sent (firstF c.reqs) hc.1 hc.2 h.sent
 have hs:=flushF_same c
 have h3:Sz n { flushF c with out:=[] }:=by
  have:Same c { flushF c with out:=[] }:=by
   obtain ⟨o,q,e,e1⟩:=hs
   rw [e]
   exact ⟨[],q,rfl,e1⟩
  exact h.same this (Nat.le_refl _) (Nat.zero_le _) h2
 exact h3.free
theorem Sz.say (h:Sz n c) (a:Ans):Sz n (sayF c a):=(h.wait (w:=none) trivial).free
theorem Sz.code (h:Sz n c) (e:Int):Sz n (codeF c e):=h.say _
theorem Sz.drop (h:Sz n c):Sz n (dropF c):=h.rqs (Nat.le_trans (List.length_filter_le _ _) h.bd.reqs) (fun r hr=>(List.mem_filter.1 hr).1)
theorem Sz.ask (h:Sz n c) (hn:n≤100000000) (g:Nat) {o:Opn} (ho:OpSz o) (l:Int) (t:Bool) {hd:Hrd} (hh:HrdSz hd):Sz (n+1) (askF c g o l t hd):=by
 have h2:=h.mono (Nat.le_succ n)
 refine ⟨h.bd.ask (by omega) g ho l t hd,?_,?_,h2.m,h2.cur,h2.db,h2.co,h2.wts,h2.num,h2.sets⟩
 ·intro r hr
  simp only [askF,List.map_append,List.mem_append] at hr
  rcases hr with hr|hr
  ·exact h.hrd r hr
  ·obtain ⟨q,hq,rfl⟩:=List.mem_map.1 hr
   rw [List.mem_singleton] at hq; subst hq; exact hh
 ·intro r hr
  simp only [askF,List.mem_append,List.mem_singleton] at hr
  rcases hr with hr|rfl
  ·exact h2.sent r hr
  ·simp only [reqF]; omega
theorem i64_0 :I64 0:=by unfold I64; omega
theorem i64_2 :I64 2:=by unfold I64; omega
theorem endOp_sz {id v:Int} (h1:I64 id) (h2:I64 v):OpSz (endOp id v):=opSz_bare ⟨i64_0,i64_0,h1,i64_0,i64_0,i64_0,i64_0,i64_0,i64_0,h2,i64_0,i64_0⟩ rfl M M M
theorem Sz.quiets {o:Opn} (ho:OpSz o):∀ (l:List Int) {n:Nat} {c:Cl},Sz n c→n+l.length≤100000000→Sz (n+l.length) (quietsF c o l)
 | [],n,c,h,_=>h
 | g::l,n,c,h,hn=>by
  rw [List.length_cons] at hn ⊢
  have h1:=h.ask (by omega) g.toNat ho 0 true (hd:=.quiet) trivial
  have h2:=Sz.quiets ho l (c:=quietF c g.toNat o) (n:=n+1) h1 (by omega)
  rw [show n+(l.length+1)=n+1+l.length by omega]
  exact h2
theorem Sz.tidy (h:Sz n c) (hn:n+5≤100000000) {id v:Int} (h1:I64 id) (h2:I64 v) (l:List Int) (hl:l.length≤5):Sz (n+5) (tidyF c id l v) :=
 (Sz.quiets (endOp_sz h1 h2) l (h.free (ended:=updA c.ended id v)) (by omega)).mono (by omega)
theorem op0_sz {k:Int}:OpSz (op0 k):=opSz_bare (by unfold NumsIn I64; simp [op0]) M M M M
theorem Sz.look (h:Sz n c) (hn:n≤100000000) (l:Int):Sz (n+1) (lookF c l):=h.ask hn 0 op0_sz l true (hd:=.look) trivial
theorem Sz.turn (h:Sz n c) (hn:n≤100000000):Sz (n+1) (turnF c):=by
 unfold turnF
 split
 ·exact h.mono (by omega)
 ·exact Sz.look (h.free (stale:=true)) hn 0
theorem Sz.turns (h:Sz n c) (hn:n≤100000000) (p:Prop) [Decidable p]:Sz (n+1) (if p then turnF c else c):=by
 split
 ·exact h.turn hn
 ·exact h.mono (by omega)
theorem Sz.lost (h:Sz n c) (hn:n+6≤100000000) (hf:Fine c) (e:Int):Sz (n+6) (lostF c e):=by
 unfold lostF
 simp only
 have h1:=h.turns (by omega) (e=26)
 have had:Adds c (if e=26 then turnF c else c):=by split<;>first|exact turnF_adds c|exact Adds.refl c
 have hf1:=hf.adds had
 generalize (if e=26 then turnF c else c)=c1 at h1 hf1
 exact (h1.tidy (by omega) h1.cur.nums.1 i64_2 _ (groupsF_five hf1)).free.code _
theorem findR_sz (h:MppSz c.m) (b:Int):I64 (findR c.m.rngs b).1.epoch:=by
 unfold findR
 split
 ·rename_i r hr; exact h.ep r (List.mem_of_find?_eq_some hr)
 ·exact i64_0
theorem Sz.read (h:Sz n c) (hn:n≤100000000) {b:Int} (hb:I64 b) (l:Int):Sz (n+1) (readF c b l):=by
 have h2:=h.mono (Nat.le_succ n)
 unfold readF
 simp only
 have h3:=h.ask hn (findR c.m.rngs b).1.group.toNat (o:=readOp c (findR c.m.rngs b).1 b) (opSz_bare ⟨i64_0,i64_0,h.cur.nums.1,h.cur.nums.2.1,findR_sz h.m b,i64_0,i64_0,hb,i64_0,i64_0,i64_0,i64_0⟩ rfl M M M) l false (hd:=.read b) hb
 refine Sz.curs (t:={ c.cur with asked:=c.cur.asked++[(findR c.m.rngs b).1.group] }) h3 ⟨h.cur.nums,h.cur.parts,?_,h2.cur.reads,h.cur.writes⟩
 rw [List.length_append,List.length_singleton]
 have:=h.cur.asked
 omega
theorem Sz.kept (h:Sz n c) (hn:n≤100000000) {x:Cal} (hx:CalSz x) (l:Int):Sz (n+1) (keptF c x l) :=
 h.ask hn _ (opSz_bare ⟨i64_0,i64_0,i64_0,i64_0,findR_sz h.m x.block,i64_0,i64_0,hx.block,hx.snap,i64_0,i64_0,i64_0⟩ rfl M M M) l false (hd:=.kept x) hx
theorem Sz.frz (h:Sz n c) (hn:n≤100000000) {x:Cal} (hx:CalSz x) {e:Int} (he:I64 e) (l:Int):Sz (n+1) (frzF c x e l) :=
 h.ask hn _ (opSz_bare ⟨i64_0,i64_0,i64_0,i64_0,he,hx.lo,hx.hi,i64_0,i64_0,i64_0,i64_0,i64_0⟩ rfl M M M) l false (hd:=.frz x e) ⟨hx,he⟩
theorem Sz.inst (h:Sz n c) (hn:n≤100000000) {x:Cal} (hx:CalSz x) {e:Int} (he:I64 e) {d:List Bt} (hd:d.length≤1000000):Sz (n+1) (instF c x e d) :=
 h.ask hn _ (o:=⟨6,0,0,0,0,e,x.lo,x.hi,0,0,0,0,0,[],[],[],d⟩) ⟨⟨i64_0,i64_0,i64_0,i64_0,he,hx.lo,hx.hi,i64_0,i64_0,i64_0,i64_0,i64_0⟩,by simp,by simp,by simp,by simp only; omega⟩ 0 false (hd:=.inst x e) ⟨hx,he⟩
theorem Sz.fin (h:Sz n c) (hn:n≤100000000) {x:Cal} (hx:CalSz x) {e:Int} (he:I64 e):Sz (n+1) (finF c x e) :=
 h.ask hn _ (opSz_bare ⟨i64_0,i64_0,i64_0,i64_0,he,i64_0,i64_0,i64_0,i64_0,i64_0,i64_0,i64_0⟩ rfl M M M) 0 false (hd:=.fin x e) ⟨hx,he⟩
theorem Sz.change (h:Sz n c) (hn:n≤100000000) {x:Cal} (hx:CalSz x) (l:Int):Sz (n+1) (changeF c x l) :=
 h.ask hn _ (opSz_bare ⟨i64_0,i64_0,i64_0,i64_0,i64_0,i64_0,i64_0,i64_0,i64_0,hx.value,i64_0,hx.node⟩ rfl M M M) l false (hd:=.change x) hx
theorem Sz.part (h:Sz n c) (hn:n≤100000000) {o:Opn} (ho:OpSz o) (g l:Int):Sz (n+1) (partF c o g l):=h.ask hn _ ho l false (hd:=.part o g) ho
theorem prepared_sz {n:Nat} {t:Txn} (h:TxnSz n t) (hn:n≤100000000) {r:Rng} (hr:I64 r.epoch):OpSz (preparedF t r):=by
 have h1:(preparedF t r).reads.length≤n:=by
  simp only [preparedF,sortI_length,List.length_map]
  exact Nat.le_trans (List.length_filter_le _ _) h.reads.1
 have h2:(preparedF t r).writes.length≤8:=Nat.le_trans (List.length_filter_le _ _) h.writes.1
 refine ⟨?_,by have:=h.parts; simp only [preparedF]; omega,by omega,by omega,by simp [preparedF]⟩
 obtain ⟨a,b,d,e⟩:=h.nums
 simp only [preparedF,NumsIn]
 split
 ·exact ⟨i64_0,i64_0,a,b,hr,d,e,i64_0,a,i64_0,i64_0,i64_0⟩
 ·exact ⟨i64_0,i64_0,a,b,hr,i64_0,i64_0,i64_0,i64_0,i64_0,i64_0,i64_0⟩
theorem Sz.parts {n0:Nat} {t:Txn} (ht:TxnSz n0 t) (hn0:n0≤100000000):∀ (l:List Rng) {n:Nat} {c:Cl},(∀ r∈l,I64 r.epoch)→Sz n c→n+l.length≤100000000→Sz (n+l.length) (partsF t l c)
 | [],n,c,_,h,_=>h
 | r::l,n,c,hl,h,hn=>by
  rw [List.length_cons] at hn ⊢
  have h1:=h.part (by omega) (prepared_sz ht hn0 (hl r (by simp))) r.group 0
  have h2:=Sz.parts ht hn0 l (fun x hx=>hl x (by simp [hx])) h1 (by omega)
  rw [show n+(l.length+1)=n+1+l.length by omega]
  exact h2
theorem prepL_len (c:Cl):(prepL c).length≤c.m.rngs.length:=by
 unfold prepL byGroup
 rw [List.length_mergeSort]
 exact List.length_filter_le _ _
theorem prepL_mem {r:Rng} (h:r∈prepL c):r∈c.m.rngs:=(List.mem_filter.1 (mem_byGroup h)).1
theorem newC_sz {me txn:Int} {parts:List Int} {acc:Int} (h:newOk me txn parts acc=true):CooSz n (newC me txn parts acc):=by
 have:=newOk_parts h
 exact ⟨by simp only [newC]; omega,by simp only [newC]; omega,by simp [newC],by simp [newC],by simp only [newC]; omega⟩
theorem newO_sz (me txn:Int) (parts:List Int) (acc:Int):CoSz n (newO me txn parts acc):=by
 intro k hk
 unfold newO at hk
 split at hk
 ·rename_i h; cases hk; exact newC_sz h
 ·cases hk
theorem Sz.prep (h:Sz n c) (l:List Rng) (hl:l.length≤4):Sz n (prepC c l) :=
 ((h.curs (t:={ c.cur with parts:=l.map fun r:Rng=>r.group }) ⟨h.cur.nums,by simpa using hl,h.cur.asked,h.cur.reads,h.cur.writes⟩).coos (k:=newO c.addr c.cur.id (l.map fun r:Rng=>r.group) c.accs) (newO_sz _ _ _ _)).free
theorem Sz.prepare (h:Sz n c) (hn:n+4≤100000000):Sz (n+4) (prepareF c):=by
 have hl:=prepL_len c
 have hm:=h.m.len
 have h1:=h.prep (prepL c) (by omega)
 exact (Sz.parts h1.cur (by omega) (prepL c) (fun r hr=>h.m.ep r (prepL_mem hr)) h1 (by omega)).mono (by omega)
theorem Sz.close (h:Sz n c) (e:Int):Sz n (closeF c e):=by
 unfold closeF
 split
 ·exact h.say _
 ·exact (h.free (opn:=false)).say _
theorem startL_len {k:Coo} (h:CooSz n k) (m:Int):(startL k m).length≤28:=by
 have h1:=startG_len k.me k.txn m k.chosen k.acc.toNat (by have:=h.acc; omega) k.parts
 have h2:=h.parts
 have:startL k m=startG k.me k.txn m k.chosen k.acc.toNat k.parts:=rfl
 rw [this]; omega
theorem startC_sz {k:Coo} (h:CooSz n k) (m:Int):CooSz n (startC k m):=⟨h.parts,h.acc,h.accepted,by simp [startC],h.top⟩
theorem Sz.start (h:Sz n c):Sz (n+29) (startF c):=by
 unfold startF
 split
 ·exact h.mono (by omega)
 ·rename_i k hk
  have hK:=h.co k hk
  have hc:=h.bd.clock
  have htop:=hK.top
  have hr:=h.num.1
  have h2:=h.mono (Nat.le_succ n)
  have hll:=startL_len hK (ballotF (max c.round (k.top / 1048576)+1) c.addr)
  have e1:0≤max c.round (k.top / 1048576)+1∧max c.round (k.top / 1048576)+1≤9000000000000+((n+1:Nat):Int):=by omega
  have e2:0≤c.clock∧c.clock≤((n+1:Nat):Int):=by omega
  have h3:Sz (n+1) { c with started:=c.clock,round:=max c.round (k.top / 1048576)+1,coord:=some (startC k (ballotF (max c.round (k.top / 1048576)+1) c.addr)) } :=
   ⟨⟨h2.bd.seq,h2.bd.clock,h2.bd.reqs,h2.bd.ops,h2.bd.out,h2.bd.id⟩,h2.hrd,h2.sent,h2.m,h2.cur,h2.db,(fun k' e=>by cases e; exact (startC_sz hK _).mono (by omega)),h2.wts,⟨e1,e2,h2.num.2.2⟩,h2.sets⟩
  exact (h3.puts _).mono (by omega)
theorem Sz.resolve (h:Sz n c) (d:Dbt):Sz (n+29) (resolveF c d):=(Sz.start ((h.coos (newO_sz c.addr d.id d.parts c.accs)).free (about:=d.id)))
theorem Sz.clear (h:Sz n c):Sz n (clearF c):=(h.drop).coos (fun k e=>by cases e)
theorem Sz.solved (h:Sz n c) (hn:n+5≤100000000) (d:Dbt) (hd:d.groups.length≤5) (hi:I64 d.id) {v:Int} (hv:I64 v):Sz (n+5) (solvedF c d v) :=
 (h.dbts (l:=c.doubts.filter fun x=>decide (x.id≠d.id)) ⟨Nat.le_trans (List.length_filter_le _ _) h.db.1,fun x hx=>h.db.2 x (List.mem_filter.1 hx).1⟩).tidy hn hi hv _ hd
theorem Sz.next (h:Sz n c) (v:Int):Sz (n+29) (nextF c v):=by
 unfold nextF
 split
 ·exact (h.code _).mono (by omega)
 ·split
  ·exact (h.code _).mono (by omega)
  ·exact h.resolve _
theorem doubtF_sz (h:Sz n c) (hf:Fine c):(doubtF c).groups.length≤5∧I64 (doubtF c).id:=by
 unfold doubtF
 cases hd:c.doubts.find? (fun d=>decide (d.id=c.about)) with
 | none=>exact ⟨by simp [noD],i64_0⟩
 | some d =>
  have hm:=List.mem_of_find?_eq_some hd
  have h1:=newOk_parts (hf.doubts d hm).2
  exact ⟨h.db.2 d hm,by show I64 d.id; unfold I64; omega⟩
theorem Sz.come (h:Sz n c) (hn:n+34≤100000000) (hf:Fine c) {v:Int} (hv:I64 v):Sz (n+34) (comeF c v):=by
 unfold comeF
 split
 ·exact ((h.clear.tidy (by omega) h.cur.nums.1 hv _ (groupsF_five hf)).close _).mono (by omega)
 ·have hd:=doubtF_sz h hf
  exact ((h.clear.solved (by omega) (doubtF c) hd.1 hd.2 hv).next v)
theorem Sz.runs (h:Sz n c) (hn:n+4≤100000000) {w:Wts} (hw:WtsSz (some w)):Sz (n+4) (runW c w):=by
 cases w with
 | read x=>exact (h.read (by omega) hw.block 0).mono (by omega)
 | prep=>exact h.prepare hn
 | snap=>exact h.prepare hn
 | kept x=>exact (h.kept (by omega) hw 0).mono (by omega)
 | again x=>exact (h.kept (by omega) hw 0).mono (by omega)
theorem Sz.mapped (h:Sz n c) (hn:n+4≤100000000) {w:Wts} (hw:WtsSz (some w)):Sz (n+4) (mappedF c w):=by
 unfold mappedF
 split
 ·exact (h.wait hw).mono (by omega)
 ·exact h.runs hn hw
theorem Sz.learn (h:Sz n c) (b:List Bt):Sz n (learnF c b):=by
 unfold learnF
 split
 ·exact h.maps (getMap_sz b)
 ·exact h
theorem Sz.go (h:Sz n c) (hn:n+4≤100000000):Sz (n+4) (goF c):=by
 unfold goF
 split
 ·exact h.mono (by omega)
 ·rename_i w hw
  exact (h.wait (w:=none) trivial).runs hn (by rw [← hw]; exact h.wts)
theorem Sz.heard (h:Sz n c) (hn:n+40≤100000000) (hf:Fine c) {hd:Hrd} (hh:HrdSz hd) (x:Res) (hx:x.data.length≤1000000):Sz (n+40) (heardF c hd x):=by
 cases hd with
 | quiet=>exact h.mono (by omega)
 | look =>
  simp only [heardF]
  split
  ·exact (h.look (by omega) 1).mono (by omega)
  ·split
   ·exact ((h.learn x.data).look (by omega) 1).mono (by omega)
   ·exact (((h.learn x.data).free (stale:=false)).go (by omega)).mono (by omega)
 | read b =>
  simp only [heardF]
  split
  ·have h2:=h.mono (Nat.le_succ n)
   refine ((h2.curs (t:={ c.cur with reads:=c.cur.reads++[⟨b,x.data⟩] }) ⟨h2.cur.nums,h2.cur.parts,h2.cur.asked,⟨?_,?_⟩,h2.cur.writes⟩).say _).mono (by omega)
   ·rw [List.length_append,List.length_singleton]; have:=h.cur.reads.1; omega
   ·intro r hr
    rcases List.mem_append.1 hr with hr|hr
    ·exact h.cur.reads.2 r hr
    ·rw [List.mem_singleton] at hr; subst hr; exact hx
  ·split
   ·exact (h.read (by omega) hh 1).mono (by omega)
   ·exact (h.lost (by omega) hf _).mono (by omega)
 | part o g =>
  simp only [heardF]
  split
  ·exact h.mono (by omega)
  ·split
   ·exact (h.part (by omega) hh g 1).mono (by omega)
   ·have h1:=h.turns (by omega) (x.code=26)
    have had:Adds c (if x.code=26 then turnF c else c):=by split<;>first|exact turnF_adds c|exact Adds.refl c
    exact (h1.come (by omega) (hf.adds had) i64_2).mono (by omega)
 | kept y =>
  simp only [heardF]
  split
  ·exact (h.kept (by omega) hh 1).mono (by omega)
  ·split
   ·exact ((h.turn (by omega)).mapped (w:=.again y) (by omega) hh).mono (by omega)
   ·exact (h.say _).mono (by omega)
 | plan y =>
  simp only [heardF]
  split
  ·exact (h.code _).mono (by omega)
  ·exact (h.frz (by omega) hh (getMap_sz x.data).m1 0).mono (by omega)
 | frz y e =>
  simp only [heardF]
  split
  ·exact (h.inst (by omega) hh.1 hh.2 hx).mono (by omega)
  ·split
   ·exact (h.frz (by omega) hh.1 hh.2 1).mono (by omega)
   ·exact (h.code _).mono (by omega)
 | inst y e =>
  simp only [heardF]
  split
  ·exact (h.code _).mono (by omega)
  ·exact (h.fin (by omega) hh.1 hh.2).mono (by omega)
 | fin y e =>
  simp only [heardF]
  split
  ·exact (h.code _).mono (by omega)
  ·exact (((h.learn x.data).ask (by omega) y.src.toNat (o:=⟨7,0,0,0,0,e,0,0,0,0,0,0,0,[],[],[],[]⟩) (opSz_bare ⟨i64_0,i64_0,i64_0,i64_0,hh.2,i64_0,i64_0,i64_0,i64_0,i64_0,i64_0,i64_0⟩ rfl M M M) 0 true (hd:=.quiet) trivial).code 0).mono (by omega)
 | change y =>
  simp only [heardF]
  split
  ·exact (h.change (by omega) hh 1).mono (by omega)
  ·exact (h.code _).mono (by omega)
theorem Sz.opened (h:Sz n c) (hn:n≤100000000) (ht:c.txns<1048575):Sz n (openedF c):=by
 have hi:=h.bd.id
 have hck:=h.bd.clock
 have htx:=h.num.2.2.2.1
 refine ⟨⟨h.bd.seq,h.bd.clock,h.bd.reqs,h.bd.ops,h.bd.out,h.bd.id⟩,h.hrd,h.sent,h.m,⟨⟨?_,?_,i64_0,i64_0⟩,by simp [openedF,noT],by simp [openedF,noT],⟨by simp [openedF,noT],by simp [openedF,noT]⟩,⟨by simp [openedF,noT],by simp [openedF,noT],List.Pairwise.nil⟩⟩,h.db,h.co,h.wts,⟨h.num.1,h.num.2.1,h.num.2.2.1,?_,h.num.2.2.2.2⟩,h.sets⟩
 ·simp only [openedF]; unfold I64; omega
 ·simp only [openedF]; unfold I64; omega
 ·simp only [openedF]; omega
theorem setW_len (l:List Wr) (m:Int) (d:List Bt):(setW l m d).length≤l.length+1∧(l.any (isW m)=true→(setW l m d).length≤l.length)∧∀ w∈setW l m d,w∈l∨w.data=d:=by
 have h1:(l.filter (fun x=>decide (x.block<m))).length+(l.filter (fun x=>decide (m<x.block))).length≤l.length∧(l.any (isW m)=true→(l.filter (fun x=>decide (x.block<m))).length+(l.filter (fun x=>decide (m<x.block))).length+1≤l.length):=by
  induction l with
  | nil=>simp
  | cons x l ih =>
   obtain ⟨i1,i2⟩:=ih
   rcases Int.lt_trichotomy x.block m with h|h|h
   ·have h':¬ m<x.block:=by omega
    have h'':¬ x.block=m:=by omega
    simp only [List.filter_cons,h,h',decide_true,decide_false,if_true,Bool.false_eq_true,if_false,List.length_cons,List.any_cons,isW,h'',Bool.false_or]
    exact ⟨by omega,fun e=>by have:=i2 e; omega⟩
   ·have h':¬ m<x.block:=by omega
    have h'':¬ x.block<m:=by omega
    simp only [List.filter_cons,h',h'',decide_false,Bool.false_eq_true,if_false,List.length_cons]
    exact ⟨by omega,fun e=>by omega⟩
   ·have h':¬ x.block<m:=by omega
    have h'':¬ x.block=m:=by omega
    simp only [List.filter_cons,h,h',decide_true,decide_false,if_true,Bool.false_eq_true,if_false,List.length_cons,List.any_cons,isW,h'',Bool.false_or]
    exact ⟨by omega,fun e=>by have:=i2 e; omega⟩
 refine ⟨?_,fun e=>?_,fun w hw=>?_⟩
 ·unfold setW; rw [List.length_append,List.length_cons]; omega
 ·unfold setW; rw [List.length_append,List.length_cons]; have:=h1.2 e; omega
 ·unfold setW at hw
  rcases List.mem_append.1 hw with h|h
  ·exact .inl (List.mem_filter.1 h).1
  ·rcases List.mem_cons.1 h with h|h
   ·right; rw [h]
   ·exact .inl (List.mem_filter.1 h).1
theorem writeF_sz {l:List Wr} (hl:l.length≤8) (hw:∀ w∈l,w.data.length≤1000000) (hr:RisesW l) (m:Int) (d:List Bt):(writeF l m d).1.length≤8∧(∀ w∈(writeF l m d).1,w.data.length≤1000000)∧RisesW (writeF l m d).1:=by
 unfold writeF
 split
 ·exact ⟨hl,hw,hr⟩
 ·split
  ·exact ⟨hl,hw,hr⟩
  ·rename_i hd
   split
   ·exact ⟨hl,hw,hr⟩
   ·rename_i hx
    obtain ⟨h1,h2,h3⟩:=setW_len l m d
    refine ⟨?_,fun w hm=>?_,setW_rises hr m d⟩
    ·by_cases ha:l.any (isW m)=true
     ·exact Nat.le_trans (h2 ha) hl
     ·simp only [Bool.not_eq_true] at ha
      have:¬ 8≤l.length:=fun h=>hx ⟨ha,h⟩
      simp only; omega
    ·rcases h3 w hm with h|h
     ·exact hw w h
     ·rw [h]; omega
theorem Sz.does (h:Sz n c) (hn:n+40≤100000000) (hf:Fine c) {x:Cal} (hx:CalSz x) (d:List Bt):Sz (n+40) (doesF c x d):=by
 unfold doesF
 split
 ·unfold beginF
  split
  ·exact (h.code _).mono (by omega)
  ·split
   ·exact (h.code _).mono (by omega)
   ·exact (((h.opened (by omega) (by omega)).free (opn:=true)).say _).mono (by omega)
 split
 ·unfold readingF
  split
  ·exact (h.code _).mono (by omega)
  ·split
   ·exact (h.code _).mono (by omega)
   ·split
    ·exact (h.say _).mono (by omega)
    ·split
     ·exact (h.say _).mono (by omega)
     ·split
      ·exact (h.code _).mono (by omega)
      ·exact (h.mapped (w:=.read x) (by omega) hx).mono (by omega)
 split
 ·unfold writingF
  split
  ·exact (h.code _).mono (by omega)
  ·exact ((h.curs (t:={ c.cur with writes:=(writeF c.cur.writes x.block d).1 }) ⟨h.cur.nums,h.cur.parts,h.cur.asked,h.cur.reads,writeF_sz h.cur.writes.1 h.cur.writes.2.1 h.cur.writes.2.2 _ _⟩).code _).mono (by omega)
 split
 ·unfold commitF
  split
  ·exact (h.code _).mono (by omega)
  ·split
   ·exact ((h.free (opn:=false)).code _).mono (by omega)
   ·exact (h.mapped (w:=.prep) (by omega) trivial).mono (by omega)
 split
 ·unfold abortF
  split
  ·exact (h.code _).mono (by omega)
  ·exact (((h.tidy (by omega) h.cur.nums.1 i64_2 _ (groupsF_five hf)).free (opn:=false)).code _).mono (by omega)
 split
 ·unfold barrierF
  split
  ·exact (h.code _).mono (by omega)
  ·split
   ·exact (h.code _).mono (by omega)
   ·exact (h.resolve _).mono (by omega)
 split
 ·unfold snapshotF
  split
  ·exact (h.code _).mono (by omega)
  ·split
   ·exact (h.code _).mono (by omega)
   ·split
    ·exact (h.code _).mono (by omega)
    ·rename_i hs ht
     simp only
     have h1:=h.opened (by omega) (by omega)
     have hsp:I64 (c.sets.getD (x.set - 1).toNat ⟨0,0⟩).lo∧I64 (c.sets.getD (x.set - 1).toNat ⟨0,0⟩).hi:=by
      rw [List.getD_eq_getElem?_getD]
      cases he:c.sets[(x.set - 1).toNat]? with
      | none=>exact ⟨i64_0,i64_0⟩
      | some s=>exact h.sets.2 s (List.mem_iff_getElem?.2 ⟨_,he⟩)
     exact (((h1.curs (t:={ (openedF c).cur with slo:=(c.sets.getD (x.set - 1).toNat ⟨0,0⟩).lo,shi:=(c.sets.getD (x.set - 1).toNat ⟨0,0⟩).hi }) ⟨⟨h1.cur.nums.1,h1.cur.nums.2.1,hsp.1,hsp.2⟩,h1.cur.parts,h1.cur.asked,h1.cur.reads,h1.cur.writes⟩).free (own:=true)).mapped (w:=.snap) (by omega) trivial).mono (by omega)
 split
 ·unfold readSnapF
  split
  ·exact (h.code _).mono (by omega)
  ·split
   ·exact (h.code _).mono (by omega)
   ·exact (h.mapped (w:=.kept x) (by omega) hx).mono (by omega)
 split
 ·unfold statusF
  split
  ·exact (h.code _).mono (by omega)
  ·split
   ·exact (h.code _).mono (by omega)
   ·exact (h.resolve _).mono (by omega)
 split
 ·unfold moveF
  split
  ·exact (h.code _).mono (by omega)
  ·split
   ·exact (h.code _).mono (by omega)
   ·split
    ·exact (h.code _).mono (by omega)
    ·exact (h.ask (by omega) 0 (o:=planOp x) (opSz_bare ⟨i64_0,i64_0,i64_0,i64_0,i64_0,hx.lo,hx.hi,i64_0,i64_0,i64_0,hx.src,hx.dst⟩ rfl M M M) 0 false (hd:=.plan x) hx).mono (by omega)
 ·unfold memberF
  split
  ·exact (h.code _).mono (by omega)
  ·split
   ·exact (h.code _).mono (by omega)
   ·split
    ·exact (h.code _).mono (by omega)
    ·exact (h.change (by omega) hx 0).mono (by omega)
theorem Sz.begun (h:Sz n c) (k:Int):Sz n { c with busy:=true,kind:=k,since:=c.clock }:=by
 have hc:=h.bd.clock
 exact ⟨⟨h.bd.seq,h.bd.clock,h.bd.reqs,h.bd.ops,h.bd.out,h.bd.id⟩,h.hrd,h.sent,h.m,h.cur,h.db,h.co,h.wts,⟨h.num.1,h.num.2.1,hc,h.num.2.2.2⟩,h.sets⟩
theorem Sz.call (h:Sz n c) (hn:n+100≤100000000) (hf:Fine c) {x:Cal} (hx:CalSz x) (d:List Bt):Sz (n+100) (callF c x d).1:=by
 unfold callF
 split
 ·exact h.mono (by omega)
 ·split
  ·exact h.mono (by omega)
  ·exact ((((h.begun x.kind).does (by omega) ⟨hf.guess,hf.reqs,hf.rngs,hf.parts,hf.asked,hf.doubts,hf.coord,hf.nmem⟩ hx d)).done).mono (by omega)
theorem guessAt_sz (h:Sz n c) (g:Nat):0≤guessAt c g∧guessAt c g≤1000:=by
 unfold guessAt
 rw [List.getD_eq_getElem?_getD]
 cases he:c.guess[g]? with
 | none=>simp
 | some s=>exact h.num.2.2.2.2.2 s (List.mem_iff_getElem?.2 ⟨_,he⟩)
theorem Sz.guess1 (h:Sz n c) (g:Nat) {v:Int} (hv:0≤v∧v≤1000):Sz n (guessF c g v):=by
 refine h.guessed ?_
 intro x hx
 rcases List.mem_or_eq_of_mem_set hx with hx|rfl
 ·exact h.num.2.2.2.2.2 x hx
 ·exact hv
theorem Sz.again (h:Sz n c) (i:Nat):Sz (n+1) (againF c i):=by
 unfold againF
 split
 ·exact h.mono (by omega)
 ·split
  ·refine (h.guess1 _ ?_).send i
   have h1:=h.num.2.2.2.2.1
   have h2:=Int.emod_nonneg (guessAt c (by assumption:Rq).group) (b:=c.nodes) (by omega)
   have h3:=Int.emod_lt_of_pos (guessAt c (by assumption:Rq).group) (b:=c.nodes) (by omega)
   omega
  ·exact h.mono (by omega)
theorem Sz.agains :∀ (l:List Nat) {n:Nat} {c:Cl},Sz n c→Sz (n+l.length) (l.foldl againF c)
 | [],n,c,h=>h
 | i::l,n,c,h=>by
  have h2:=Sz.agains l (h.again i)
  rw [List.length_cons,show n+(l.length+1)=n+1+l.length by omega]
  exact h2
theorem dbtF_sz (h:Sz n c) (hf:Fine c):DbSz (n+1) (c.doubts++[dbtF c]):=by
 refine ⟨by rw [List.length_append,List.length_singleton]; have:=h.db.1; omega,fun d hd=>?_⟩
 rcases List.mem_append.1 hd with hd|hd
 ·exact h.db.2 d hd
 ·rw [List.mem_singleton] at hd; subst hd; exact groupsF_five hf
theorem Sz.over (h:Sz n c) (hn:n+10≤100000000) (hf:Fine c):Sz (n+10) (overF c):=by
 unfold overF
 split
 ·split
  ·exact ((((h.clear.mono (Nat.le_succ n)).dbts (l:=c.doubts++[dbtF c]) (dbtF_sz h hf)).free (own:=true)).close _).mono (by omega)
  ·exact ((((h.clear).tidy (by omega) h.cur.nums.1 i64_2 _ (groupsF_five hf)).free (own:=true)).close _).mono (by omega)
 ·split
  ·exact (h.clear.lost (by omega) hf.clear 0).mono (by omega)
  ·split
   ·exact (h.clear.code _).mono (by omega)
   ·exact (h.clear.code _).mono (by omega)
theorem Sz.ticked (h:Sz n c):Sz (n+1) (tickedF c):=by
 have h2:=h.mono (Nat.le_succ n)
 have hc:=h.bd.clock
 exact ⟨⟨h2.bd.seq,by unfold tickedF; simp only; omega,h2.bd.reqs,h2.bd.ops,h2.bd.out,h2.bd.id⟩,h2.hrd,h2.sent,h2.m,h2.cur,h2.db,h2.co,h2.wts,h2.num,h2.sets⟩
theorem mem_getA {κ α:Type} [DecidableEq κ] {k:κ} {v:α}:∀ {l:List (κ × α)},getA l k=some v→(k,v)∈l
 | [],h=>by cases h
 | (a,u)::l,h=>by
  simp only [getA] at h
  split at h
  ·rename_i e; subst e; cases h; simp
  ·exact List.mem_cons_of_mem _ (mem_getA h)
theorem memUpdA {κ α:Type} [DecidableEq κ] {k:κ} {v:α} {x:κ × α}:∀ {l:List (κ × α)},x∈updA l k v→x∈l∨x=(k,v)
 | [],h=>by simp [updA] at h; exact .inr h
 | (a,u)::l,h=>by
  simp only [updA] at h
  split at h
  ·rcases List.mem_cons.1 h with h|h
   ·exact .inr h
   ·exact .inl (List.mem_cons_of_mem _ h)
  ·rcases List.mem_cons.1 h with h|h
   ·exact .inl (by rw [h]; simp)
   ·rcases memUpdA h with h|h
    ·exact .inl (List.mem_cons_of_mem _ h)
    ·exact .inr h
theorem getA_len {κ α:Type} [DecidableEq κ] {l:List (κ × List α)} {n:Nat} (h:∀ x∈l,x.2.length≤n) (k:κ):((getA l k).getD []).length≤n:=by
 cases hg:getA l k with
 | none=>simp
 | some v=>exact h _ (mem_getA hg)
theorem accC_sz {k:Coo} (h:CooSz n k) (m:Msg):CooSz (n+1) (accC k m):=by
 have h2:=h.mono (Nat.le_succ n)
 have hi:∀ x∈updA k.accepted (m.part,m.ballot,m.value) (updA ((getA k.accepted (m.part,m.ballot,m.value)).getD []) m.src 1),x.2.length≤n+1:=by
  intro x hx
  rcases memUpdA hx with hx|rfl
  ·exact h2.accepted x hx
  ·have h3:=getA_len h.accepted (m.part,m.ballot,m.value)
   have h4:=updA_length ((getA k.accepted (m.part,m.ballot,m.value)).getD []) m.src 1
   simp only; omega
 unfold accC
 split
 ·exact h2
 ·simp only
  split
  ·exact ⟨h2.parts,h2.acc,hi,h2.promised,h2.top⟩
  ·exact ⟨h2.parts,h2.acc,hi,h2.promised,h2.top⟩
theorem promC_sz {k:Coo} (h:CooSz n k) (m:Msg):CooSz (n+1) (promC k m).1∧(promC k m).2.length≤7∧∀ x∈(promC k m).2,x.entries=[]∧x.data=[]:=by
 have h2:=h.mono (Nat.le_succ n)
 have hl:∀ x∈updA k.promised m.part ((getA k.promised m.part).getD []++[⟨m.src,m.index,m.value⟩]),x.2.length≤n+1:=by
  intro x hx
  rcases memUpdA hx with hx|rfl
  ·exact h2.promised x hx
  ·have h3:=getA_len h.promised m.part
   simp only [List.length_append,List.length_singleton]; omega
 unfold promC
 split
 ·exact ⟨h2,by simp,by simp⟩
 ·simp only
  split
  ·exact ⟨h2,by simp,by simp⟩
  ·split
   ·exact ⟨⟨h2.parts,h2.acc,h2.accepted,hl,h2.top⟩,by simp,by simp⟩
   ·refine ⟨⟨h2.parts,h2.acc,h2.accepted,hl,h2.top⟩,by have:=h.acc; simp [allF]; omega,?_⟩
    intro x hx
    unfold allF at hx
    obtain ⟨i,_,rfl⟩:=List.mem_map.1 hx
    exact ⟨rfl,rfl⟩
theorem stepC_sz {k:Coo} (h:CooSz n k) (m:Msg) (hm:I64 m.index):CooSz (n+1) (stepC k m).1∧(stepC k m).2.length≤7∧∀ x∈(stepC k m).2,x.entries=[]∧x.data=[]:=by
 have h2:=h.mono (Nat.le_succ n)
 unfold stepC
 split
 ·exact ⟨h2,by simp,by simp⟩
 ·split
  ·exact ⟨h2,by simp,by simp⟩
  ·split
   ·refine ⟨⟨h2.parts,h2.acc,h2.accepted,h2.promised,?_⟩,by simp,by simp⟩
    have:=h2.top
    unfold I64 at hm
    simp only; omega
   ·split
    ·exact ⟨accC_sz h m,by simp,by simp⟩
    ·exact promC_sz h m
theorem Sz.tick (h:Sz n c) (hn:n+100≤100000000) (hf:Fine c) (ha:Any c):Sz (n+100) (tickF c).1:=by
 have h0:=h.ticked
 have hf0:Fine (tickedF c):=⟨hf.guess,hf.reqs,hf.rngs,hf.parts,hf.asked,hf.doubts,hf.coord,hf.nmem.1,by have:=hf.nmem.2; unfold tickedF; simp only; omega⟩
 have ha0:Any (tickedF c):=ha
 have h5:=firstF_five (l:=c.reqs) (fun r hr=>(hf.reqs (core r) (List.mem_map.2 ⟨r,hr,rfl⟩)).1)
 obtain ⟨a1,f1,b1⟩:=again_ok (firstF c.reqs) ha0 hf0
 have h1:Sz (n+6) ((firstF c.reqs).foldl againF (tickedF c)):=(Sz.agains _ h0).mono (by omega)
 unfold tickF
 simp only
 have key:∀ c1:Cl,Any c1→Fine c1→Sz (n+6) c1→∀ c2,c2=(if c1.coord.isSome=true∧c1.own=false∧20≤c1.clock - c1.started then startF c1 else c1) →
   ∀ c3,c3=(if c2.busy=true∧60≤c2.clock - c2.since then overF c2 else c2)→Sz (n+100) (doneF c3):=by
  rintro c1 ha hf hs c2 rfl c3 rfl
  have h2:∀ c2,c2=(if c1.coord.isSome=true∧c1.own=false∧20≤c1.clock - c1.started then startF c1 else c1)→Fine c2∧Sz (n+35) c2:=by
   rintro c2 rfl
   split
   ·rename_i hc
    rcases ha with hw|hr
    ·exact ⟨(startF_work hw hf hc.1).2,hs.start⟩
    ·rw [hr.2.2.2.2.1] at hc; cases hc.1
   ·exact ⟨hf,hs.mono (by omega)⟩
  have:=h2 _ rfl
  generalize (if c1.coord.isSome=true∧c1.own=false∧20≤c1.clock - c1.started then startF c1 else c1)=c2 at this
  obtain ⟨y,z⟩:=this
  split
  ·exact (z.over (by omega) y).done.mono (by omega)
  ·exact z.done.mono (by omega)
 exact key _ a1 f1 h1 _ rfl _ rfl
theorem Sz.erase (h:Sz n c) (i:Nat):Sz n { c with reqs:=c.reqs.eraseIdx i }:=h.rqs (by have:=h.bd.reqs; rw [List.length_eraseIdx]; split<;>omega) (fun r hr=>List.mem_of_mem_eraseIdx hr)
theorem getRes_len (b:List Bt):(getRes b).1.data.length≤b.length:=by
 unfold getRes
 split
 ·simp
 ·have h1:∀ (s:RS) (n:Int),(takeV s n).length≤s.left.length:=by
   intro s n; unfold takeV; split
   ·rw [List.length_take]; omega
   ·simp
  have h2:∀ (s:RS) (n:Int),(takeS s n).left.length≤s.left.length:=by
   intro s n; unfold takeS; split
   ·simp only [List.length_drop]; omega
   ·simp
  exact Nat.le_trans (h1 _ _) (Nat.le_trans (h2 _ _) (h2 _ _))
theorem Sz.told (h:Sz n c) (hn:n+50≤100000000) (hf:Fine c) (m:Msg) (hs:0≤m.src) (hd:m.data.length≤1000000):Sz (n+50) (toldF c m):=by
 unfold toldF
 split
 ·exact h.mono (by omega)
 ·split
  ·exact h.mono (by omega)
  ·rename_i i _ _ r hr
   split
   ·split
    ·rename_i hm
     have:=h.num.2.2.2.2.1
     exact ((h.guess1 _ (by omega)).send i).mono (by omega)
    ·exact h.mono (by omega)
   ·split
    ·exact h.mono (by omega)
    ·simp only
     have hl:(getRes m.data).1.data.length≤1000000:=Nat.le_trans (getRes_len _) hd
     have hmem:r∈c.reqs:=List.mem_iff_getElem?.2 ⟨_,hr⟩
     have hg:Sz n (if m.src≤c.nodes then guessF c r.group m.src else c)∧Fine (if m.src≤c.nodes then guessF c r.group m.src else c)∧(if m.src≤c.nodes then guessF c r.group m.src else c).reqs=c.reqs:=by
      split
      ·have:=h.num.2.2.2.2.1
       exact ⟨h.guess1 _ (by omega),hf.guessed _ _,rfl⟩
      ·exact ⟨h,hf,rfl⟩
     generalize (if m.src≤c.nodes then guessF c r.group m.src else c)=c1 at hg
     obtain ⟨g1,g2,g3⟩:=hg
     refine ((g1.erase i).heard (by omega) ?_ (h.hrd (core r) (List.mem_map.2 ⟨r,hmem,rfl⟩)) _ hl).mono (by omega)
     exact ⟨g2.guess,fun q hq=>by obtain ⟨q',hq',rfl⟩:=List.mem_map.1 hq; exact g2.reqs _ (List.mem_map.2 ⟨q',List.mem_of_mem_eraseIdx hq',rfl⟩),g2.rngs,g2.parts,g2.asked,g2.doubts,g2.coord,g2.nmem⟩
theorem valueC_sz (k:Coo):I64 (valueC k):=by
 have:∀ (ch:List (Int × Int)) (l:List Int) (v:Int),I64 v→I64 (valL ch l v):=by
  intro ch l
  induction l with
  | nil=>exact fun v h=>h
  | cons p l ih =>
   intro v h
   simp only [valL]
   split
   ·exact i64_2
   ·refine ih _ ?_
    split
    ·exact i64_0
    ·exact h
 exact this _ _ _ (by unfold I64; omega)
theorem Sz.step (h:Sz n c) (hn:n+50≤100000000) (hf:Fine c) (m:Msg) (hm:I64 m.index):Sz (n+50) (stepF c m):=by
 unfold stepF
 split
 ·exact h.mono (by omega)
 ·rename_i k hk
  simp only
  obtain ⟨s1,s2,s3⟩:=stepC_sz (h.co k hk) m hm
  have h1:Sz (n+1) { c with coord:=some (stepC k m).1 }:=(h.mono (Nat.le_succ n)).coos (fun k' e=>by cases e; exact s1)
  have h2:Sz (n+8) (putsF { c with coord:=some (stepC k m).1 } (stepC k m).2):=(h1.puts _).mono (by omega)
  have hf1:Fine { c with coord:=some (stepC k m).1 }:=⟨hf.guess,hf.reqs,hf.rngs,hf.parts,hf.asked,hf.doubts,fun _ e=>hf.coord (by rw [hk]; rfl) e,hf.nmem⟩
  have hf2:=hf1.same (putsF_same (stepC k m).2 { c with coord:=some (stepC k m).1 }).1
  split
  ·exact (h2.come (by omega) hf2 (valueC_sz _)).mono (by omega)
  ·exact h2.mono (by omega)
theorem Sz.take (h:Sz n c) (hn:n+100≤100000000) (hf:Fine c) (src dst:Int) (b:List Bt) (hm:(getM b).2=0→((getM b).1.kind=9∨(getM b).1.kind=11→I64 (getM b).1.index)∧0≤(getM b).1.src∧(getM b).1.data.length≤1000000):Sz (n+100) (takeF c src dst b).1:=by
 unfold takeF
 simp only
 split
 ·exact h.mono (by omega)
 ·rename_i hc
  simp only [not_or,ne_eq,Decidable.not_not] at hc
  obtain ⟨m1,m2,m3⟩:=hm hc.2.1
  split
  ·exact (h.told (by omega) hf _ m2 m3).done.mono (by omega)
  ·split
   ·rename_i hk
    exact (h.step (by omega) hf _ (m1 hk.2.2)).done.mono (by omega)
   ·exact h.done.mono (by omega)
end
section
variable {P:Program} {g:Env}
theorem run_eqm {t:TypeId} {kt e:TypeId} (h:P.underlying t=some (.map kt e)) (d:Nat) (w:World) {v:Value} {r:Bool} (hv:(v=.map none∧r=true)∨((∃ b,v=.map (some b))∧r=false)):(Op.equalIn (d+1) t v (.map none)).run P w=.ok r w:=by
 rcases hv with ⟨rfl,rfl⟩|⟨⟨b,rfl⟩,rfl⟩<;>simp [Op.equalIn,run_underlying h]
theorem run_eqlm {t:TypeId} {kt e:TypeId} (h:P.underlying t=some (.map kt e)) (w:World) {v:Value} {r:Bool} (hv:(v=.map none∧r=true)∨((∃ b,v=.map (some b))∧r=false)):(binOp .eql t v (.map none)).run P w=.ok (.bool r) w:=by
 have h1:(Op.equal t v (.map none)).run P w=.ok r w:=run_eqm h 9999 w hv
 rcases hv with ⟨rfl,rfl⟩|⟨⟨b,rfl⟩,rfl⟩<;>(simp only [binOp]; simp [h1])
theorem pv_eql_nilmap {t ty:TypeId} {kt e:TypeId} [hu:Und P t (.map kt e)] {x y:Operand} {v:Value} {r:Bool} (hx:ev g x=some v) (hy:ev g y=some (.map none))
  (hv:(v=.map none∧r=true)∨((∃ b,v=.map (some b))∧r=false)):PV P g (.binOp .eql t x y ty) (.bool r):=by
 intro o a w m ho ha; unfold execOp
 have h2:=run_eqlm (w:=w) hu.out hv
 have h3:(eqGuard .eql t x y v (.map none)).run P w=.ok () w:=by
  rcases hv with ⟨rfl,rfl⟩|⟨⟨b,rfl⟩,rfl⟩<;>(unfold eqGuard; split<;>simp_all)
 simp only [ho,ha.ev hx,ha.ev hy,Sem.run_bind,h3,Result.andThen_ok,h2,Sem.run_pure]
end
set_option maxHeartbeats 16000000
set_option maxRecDepth 4000
set_option synthInstance.maxHeartbeats 400000
set_option synthInstance.maxSize 100000
attribute [local irreducible] Hold HoldL HoldW
theorem coAccept_spec (w0:World) (b:Nat) (k:Coo) (m:Msg) (ve vd:Value) (S:Hp) (H:CooAt w0 b k S) (hbd0:((getA k.accepted (m.part,m.ballot,m.value)).getD []).length≤1000000) :
  Spec Tryz.prog w0 116 [.pointer (some ⟨b,0,none⟩),.agg (cellsM m ve vd).toArray] S (fun r h'=>r=.tuple #[]∧∃ S2,CooAt w0 b (accC k m) S2∧S2=h'):=by
 obtain ⟨vp,pm,pp,ab,cb,h1,h2,h3,h4,h5,hp,ha,hc,hm,hq,rfl⟩:=H.out
 have H0:=H
 clear H
 obtain ⟨va,h2a,h2b,ha1,ha2,rfl⟩:=ha
 generalize hC:cooC b k.me k.txn vp k.acc (.map (some ab)) (.map (some cb)) (.bool k.started) k.number pm pp k.top=C at *
 obtain ⟨me,txn,parts,acc,l1,chosen,st,num,l2,l3,top⟩:=k
 generalize hk:(⟨me,txn,parts,acc,l1,chosen,st,num,l2,l3,top⟩:Coo)=k0 at *
 refine zN Tryz.func116 M Tryz.ntmps116 Tryz.results116 M fun fr=>?_
 refine zF ?_
 refine hold_join (fun g' L'=>∃ (b1:Nat),Sub g' [(0,.pointer (some ⟨b,0,none⟩)),(3,.pointer (some ⟨b1,0,none⟩))]∧L'=pt b1 (.cells (cellsM m ve vd).toArray 55 (0,0))+(C+(h1+(h2a+h2b+(h3+(h4+h5))))+fr)) ?_ ?_
 ·repeat (first|refine zB ?_|refine zE ?_|refine L_box M (c:=[_,_,_,_,_,_,_,_,_,_,_,_,_,_,_,_,_]) M M M (fun _=>?_))
  rename_i b1
  exact ⟨b1,zsb,rfl⟩
 rintro g' _ ⟨b1,hsub,rfl⟩
 refine hold_env hsub ?_
 clear hsub g'
 by_cases hgo:m.value≠1∧m.value≠2
 ·refine zcD ?_
  refine yF M M (pv_neq M M) (fun n1=>?_) (fun n1=>absurd hgo.1 n1)
  refine zaO ?_
  refine yF M M (pv_neq M M) (fun n2=>?_) (fun n2=>absurd hgo.2 n2)
  repeat (first|refine zE ?_|refine zK M M M ?_|refine zM ?_|refine zJ M ?_)
  refine ⟨[],C+(h1+(h2a+h2b+(h3+(h4+h5)))),_,trivial,⟨rfl,_,?_,rfl⟩,yJ.out⟩
  unfold accC
  rw [if_pos hgo]
  exact H0
 refine zF ?_
 refine hold_join (fun g' L'=>Sub g' [(0,.pointer (some ⟨b,0,none⟩)),(3,.pointer (some ⟨b1,0,none⟩))]∧L'=pt b1 (.cells (cellsM m ve vd).toArray 55 (0,0))+(C+(h1+(h2a+h2b+(h3+(h4+h5))))+fr)) ?_ ?_
 ·refine zcD ?_
  refine yF M M (pv_neq M M) (fun n1=>?_) (fun n1=>?_)
  ·refine zaO ?_
   refine yF M M (pv_neq M M) (fun n2=>absurd ⟨n1,n2⟩ hgo) (fun n2=>?_)
   refine zbH ?_
   exact ⟨zsb,rfl⟩
  ·repeat (first|refine zE ?_|refine zK M M M ?_|refine L_skip M M ?_|refine zP ?_|refine zI M ?_)
   exact ⟨zsb,rfl⟩
 rintro g' _ ⟨hsub,rfl⟩
 refine hold_env hsub ?_
 clear hsub g'
 subst hC
 repeat (first|refine zF ?_|refine zB ?_|refine zE ?_|refine zY M M M M M ?_|refine L_ld M M M M M ?_|refine L_build (vs:=[_,_,_]) (cells:=[_,_,_]) M M M M ?_|refine L_stA M (vs:=[_,_,_]) M M M M (c':=[_,_,_]) M M ?_|refine L_alloc (c:=[_,_,_]) M M M (fun _=>?_))
 rename_i b4
 have hgd:∃ bd:Bool,(bd=true↔getA k0.accepted (m.part,m.ballot,m.value)=none)∧(((getA va (m.part,m.ballot,m.value)).getD (.map none)=.map none∧bd=true)∨((∃ ib,(getA va (m.part,m.ballot,m.value)).getD (.map none)=.map (some ib))∧bd=false)):=by
  rcases hg:getA k0.accepted (m.part,m.ballot,m.value) with _|x
  ·exact ⟨true,by simp,.inl ⟨by rw [Assoc.none ha2 hg]; rfl,rfl⟩⟩
  ·obtain ⟨v,q1,q2,e1,⟨ib,rfl,hib⟩,e3,e4⟩:=Assoc.some ha2 hg
   exact ⟨false,by simp,.inr ⟨⟨ib,by rw [e1]; rfl⟩,rfl⟩⟩
 obtain ⟨bd,hbd,hbv⟩:=hgd
 refine hold_join (fun g' L'=>Sub g' [(0,.pointer (some ⟨b,0,none⟩)),(3,.pointer (some ⟨b1,0,none⟩)),(4,.pointer (some ⟨b4,0,none⟩)),(26,.bool bd)] ∧
  L'=pt b4 (.cells [.int .i64 m.part,.int .i64 m.ballot,.int .i64 m.value].toArray 249 (0,0))+(pt b1 (.cells (cellsM m ve vd).toArray 55 (0,0))+(cooC b k0.me k0.txn vp k0.acc (.map (some ab)) (.map (some cb)) (.bool k0.started) k0.number pm pp k0.top+(h1+(h2a+h2b+(h3+(h4+h5))))+fr))) ?_ ?_
 ·refine yB [5] [0,1,2,3,4,5,6] (by kernel_rfl) M (by kernel_rfl) (by kernel_rfl) ?_
  refine zcT ?_
  refine W_eff M M M M (ev_mapGet (k:=(m.part,m.ballot,m.value)) M M ha1) (Kept.all _) ?_
  rintro _ _ ⟨rfl,rfl⟩
  refine ⟨zka,?_⟩
  skip
  refine yD M M M M (pv_eql_nilmap M M hbv) ?_
  repeat (refine yI ?_)
  skip
  exact ⟨zsb,rfl⟩
 rintro g' _ ⟨hsub,rfl⟩
 refine hold_env hsub ?_
 clear hsub g'
 refine hold_join (fun g' L'=>∃ (va2:List ((Int × Int × Int) × Value)) (hA hI hR:Hp) (ib:Nat),Sub g' [(0,.pointer (some ⟨b,0,none⟩)),(3,.pointer (some ⟨b1,0,none⟩)),(4,.pointer (some ⟨b4,0,none⟩))]∧MapAt Tryz.prog ab va2 hA∧getA va2 (m.part,m.ballot,m.value)=some (.map (some ib)) ∧
  MapAt Tryz.prog ib (vI ((getA k0.accepted (m.part,m.ballot,m.value)).getD [])) hI∧(∀ (y:List (Int × Int)) (hy:Hp),MapAt Tryz.prog ib (vI y) hy→Assoc InnerAt (updA k0.accepted (m.part,m.ballot,m.value) y) va2 (hy+hR)) ∧
  L'=pt b4 (.cells [.int .i64 m.part,.int .i64 m.ballot,.int .i64 m.value].toArray 249 (0,0))+(pt b1 (.cells (cellsM m ve vd).toArray 55 (0,0))+(cooC b k0.me k0.txn vp k0.acc (.map (some ab)) (.map (some cb)) (.bool k0.started) k0.number pm pp k0.top+(h1+(hA+(hI+hR)+(h3+(h4+h5))))+fr))) ?_ ?_
 ·cases bd
  ·rcases hg:getA k0.accepted (m.part,m.ballot,m.value) with _|x
   ·have:=hbd.2 hg; cases this
   ·obtain ⟨v,q1,q2,e1,⟨ib,rfl,hib⟩,rfl,e4⟩:=Assoc.some ha2 hg
    refine zcL ?_
    exact ⟨va,h2a,q1,q2,ib,zsb,ha1,e1,hib,fun y hy hh=>by have:=e4 (y:=y) (u:=.map (some ib)) (h3:=hy) ⟨ib,rfl,hh⟩; rwa [updA_same e1] at this,rfl⟩
  ·have hg:getA k0.accepted (m.part,m.ballot,m.value)=none:=hbd.1 M
   repeat (refine zJ M ?_)
   refine yB [5,6] [0,1,2,3,4,5,6] (by kernel_rfl) M (by kernel_rfl) (by kernel_rfl) ?_
   refine zcT ?_
   refine W_eff M M M M ev_mapNew (Kept.all _) ?_
   rintro _ _ ⟨ib,rfl,rfl⟩
   refine ⟨zka,?_⟩
   skip
   refine W_eff M M M M (ev_mapSet (k:=(m.part,m.ballot,m.value)) M M M ha1) (Kept.all _) ?_
   rintro _ _ ⟨hA,hA1,rfl⟩
   refine ⟨zka,?_⟩
   repeat (refine yI ?_)
   skip
   exact ⟨updA va (m.part,m.ballot,m.value) (.map (some ib)),hA,pt ib (.map #[] 0),h2b,ib,zsb,hA1,by rw [getA_upd,if_pos M],by rw [hg]; exact MapAt.empty ib,fun y hy hh=>Assoc.new ha2 hg ⟨ib,rfl,hh⟩,by ac_rfl⟩
 rintro g' _ ⟨va2,hA,hI,hR,ib,hsub,hA1,hA2,hI1,hAs,rfl⟩
 refine hold_env hsub ?_
 clear hsub g'
 have hA3:(getA va2 (m.part,m.ballot,m.value)).getD (.map none)=.map (some ib):=by rw [hA2]; rfl
 generalize hi0:(getA k0.accepted (m.part,m.ballot,m.value)).getD []=i0 at *
 repeat (refine zF ?_)
 refine yB [5,8] [0,1,2,3,4,6,7,5,8] (by kernel_rfl) M (by kernel_rfl) (by kernel_rfl) ?_
 refine zcT ?_
 refine W_eff M M M M (ev_mapGet (k:=(m.part,m.ballot,m.value)) M M hA1) (Kept.all _) ?_
 rintro _ _ ⟨rfl,rfl⟩
 refine ⟨zka,?_⟩
 rw [hA3]
 skip
 refine W_eff M M M M (ev_mapSet (k:=m.src) M M M hI1) (Kept.all _) ?_
 rintro _ _ ⟨hI2,hI3,rfl⟩
 refine ⟨zka,?_⟩
 rw [updA_vI] at hI3
 repeat (refine yI ?_)
 repeat (refine zF ?_)
 refine yB [5,6] [0,1,2,3,4,8,9,10,11,5,6,7,12] (by kernel_rfl) M (by kernel_rfl) (by kernel_rfl) ?_
 refine zcT ?_
 refine W_eff M M M M (ev_mapGet (k:=(m.part,m.ballot,m.value)) M M hA1) (Kept.all _) ?_
 rintro _ _ ⟨rfl,rfl⟩
 refine ⟨zka,?_⟩
 rw [hA3]
 skip
 refine W_eff M M M M (pv_len_map M hI3) (Kept.all _) ?_
 rintro _ _ ⟨rfl,rfl⟩
 refine ⟨zka,?_⟩
 skip
 have hil:(vI (updA i0 m.src 1)).length=(updA i0 m.src 1).length:=by simp [vI]
 have hil2:(updA i0 m.src 1).length≤1000001:=by have:=updA_length i0 m.src 1; omega
 rw [hil]
 refine yD M M M M (pv_mul M M (by omega) (by omega)) ?_
 skip
 refine W_dec M M M M (pv_gtr M M) (fun n3=>?_) (fun n3=>?_)
 ·repeat (refine yI ?_)
  repeat (refine zJ M ?_)
  refine yB [12,16] [0,1,2,3,4,5,6,7,8,9,10,11,13,14,12,15,16] (by kernel_rfl) M (by kernel_rfl) (by kernel_rfl) ?_
  refine zaF ?_
  refine W_eff M M M M (ev_mapGet (k:=m.part) M M hc) (Kept.all _) ?_
  rintro _ _ ⟨rfl,rfl⟩
  refine ⟨zka,?_⟩
  rw [mapI_vI]
  skip
  refine yD M M M M (pv_max M M) ?_
  rw [show (if mapI k0.chosen m.part<m.value then m.value else mapI k0.chosen m.part)=max (mapI k0.chosen m.part) m.value by split<;>omega]
  skip
  refine W_eff M M M M (ev_mapSet (k:=m.part) M M M hc) (Kept.all _) ?_
  rintro _ _ ⟨hC2,hC3,rfl⟩
  refine ⟨zka,?_⟩
  rw [updA_vI] at hC3
  repeat (refine yI ?_)
  skip
  have hK:CooAt w0 b (accC k0 m) (cooC b k0.me k0.txn vp k0.acc (.map (some ab)) (.map (some cb)) (.bool k0.started) k0.number pm pp k0.top+(h1+(hA+(hI2+hR)+(hC2+(h4+h5))))):=by
   unfold accC
   rw [if_neg hgo,hi0]
   simp only
   rw [if_pos n3]
   exact ⟨⟨vp,pm,pp,ab,cb,h1,_,hC2,h4,h5,hp,⟨va2,hA,hI2+hR,hA1,hAs _ _ hI3,rfl⟩,hC3,hm,hq,rfl⟩⟩
  exact ⟨[],_,pt b4 (.cells [.int .i64 m.part,.int .i64 m.ballot,.int .i64 m.value].toArray 249 (0,0))+pt b1 (.cells (cellsM m ve vd).toArray 55 (0,0)),trivial,⟨rfl,_,hK,rfl⟩,by ac_rfl⟩
 ·repeat (refine yI ?_)
  refine zcL ?_
  have hK:CooAt w0 b (accC k0 m) (cooC b k0.me k0.txn vp k0.acc (.map (some ab)) (.map (some cb)) (.bool k0.started) k0.number pm pp k0.top+(h1+(hA+(hI2+hR)+(h3+(h4+h5))))):=by
   unfold accC
   rw [if_neg hgo,hi0]
   simp only
   rw [if_neg n3]
   exact ⟨⟨vp,pm,pp,ab,cb,h1,_,h3,h4,h5,hp,⟨va2,hA,hI2+hR,hA1,hAs _ _ hI3,rfl⟩,hc,hm,hq,rfl⟩⟩
  exact ⟨[],_,pt b4 (.cells [.int .i64 m.part,.int .i64 m.ballot,.int .i64 m.value].toArray 249 (0,0))+pt b1 (.cells (cellsM m ve vd).toArray 55 (0,0)),trivial,⟨rfl,_,hK,rfl⟩,by ac_rfl⟩
theorem indexFuncPrm_spec (w0:World) (X:Hp) (v:Value) (xs:List Prm) (k0:Nat) [hf:Fun Tryz.prog k0] (caps:List Value) (p:Prm→Bool) (hv:RdL w0 X v xs) (hl:xs.length≤1000000000)
  (hp:∀ Y x e,x∈xs→Rep.rd w0 Y x e→Spec Tryz.prog w0 k0 (.agg e.toArray::caps) X (fun r h'=>r=.bool (p x)∧X=h')) :
  Spec Tryz.prog w0 279 [v,.func (.func k0) #[] caps.toArray] X (fun r h'=>r=.int .i64 (idxF p xs)∧X=h'):=by
 obtain ⟨a,c,rfl⟩:=hv.shape
 refine zN Tryz.func279 M Tryz.ntmps279 Tryz.results279 M fun fr=>?_
 refine zaS ?_
 refine hold_count xs.length (fun k g L=>∃ R:Hp,g=[(0,.slice a xs.length c),(1,.func (.func k0) #[] caps.toArray),(7,.int .i64 xs.length),(8,.int .i64 k)]∧L=X+fr+R∧∀ x∈xs.take k,p x=false) _ ⟨0,rfl,(yA _).symm,by simp⟩ zsb ?_
 rintro k g L hk ⟨R,rfl,rfl,hpre⟩
 refine zaH ?_
 refine yF M M (pv_lss M M) (fun h2=>?_) (fun h2=>?_)
 ·have hx:k<xs.length:=by omega
  obtain ⟨b2,o2,rfl,e,hr,hat⟩:=hv.at hx
  refine zcA ?_
  refine L_load M M (yE M) (zH M hat (beq_iff_eq.2 (Rep.len hr))) ?_
  refine zX M M (zQ M M (by simp<;>rfl)) (hp X xs[k] e (List.getElem_mem hx) hr) ?_
  rintro _ _ ⟨rfl,rfl⟩
  cases h3:p xs[k]
  ·refine zaJ ?_
   exact ⟨hx,_,zsb,_,rfl,yJ.out,all_take_succ hx hpre h3⟩
  ·refine zaB ?_
   exact ⟨[_],X,_,⟨rfl,trivial⟩,⟨by rw [idxF_hit hx h3 hpre]; rfl,rfl⟩,yJ.out⟩
 ·refine zaK ?_
  rw [List.take_of_length_le (by omega)] at hpre
  exact ⟨[_],X,_,⟨rfl,trivial⟩,⟨by rw [idxF_miss hpre]; rfl,rfl⟩,yJ.out⟩
theorem containsFuncPrm_spec (w0:World) (X:Hp) (v:Value) (xs:List Prm) (k0:Nat) [hf:Fun Tryz.prog k0] (caps:List Value) (p:Prm→Bool) (hv:RdL w0 X v xs) (hl:xs.length≤1000000000)
  (hp:∀ Y x e,x∈xs→Rep.rd w0 Y x e→Spec Tryz.prog w0 k0 (.agg e.toArray::caps) X (fun r h'=>r=.bool (p x)∧X=h')) :
  Spec Tryz.prog w0 204 [v,.func (.func k0) #[] caps.toArray] X (fun r h'=>r=.bool (xs.any p)∧X=h'):=by
 have hi:=indexFuncPrm_spec w0 X v xs k0 caps p hv hl hp
 obtain ⟨a,c,rfl⟩:=hv.shape
 refine zN Tryz.func204 M Tryz.ntmps204 Tryz.results204 M fun fr=>?_
 refine zaC ?_
 refine zX M M (zQ M M M) hi ?_
 rintro _ _ ⟨rfl,rfl⟩
 refine yG M M (pv_geq M M) ?_
 refine zaE ?_
 exact ⟨[_],X,_,⟨rfl,trivial⟩,⟨by rw [idxF_nonneg]; rfl,rfl⟩,yJ.out⟩
theorem promise1_spec (w0:World) (X:Hp) (p:Prm) (m:Msg) (ve vd:Value) (b1:Nat) (h:At w0 X b1 0 (cellsM m ve vd)) :
  Spec Tryz.prog w0 205 [.agg [.int .i64 p.src,.int .i64 p.index,.int .i64 p.value].toArray,.pointer (some ⟨b1,0,none⟩)] X (fun v h'=>v=.bool (decide (p.src=m.src))∧X=h'):=by
 refine zN Tryz.func205 M Tryz.ntmps205 Tryz.results205 M fun fr=>?_
 repeat (first|refine zF ?_|refine zB ?_|refine zE ?_|refine zK M M M ?_|refine zY M M M M M ?_|refine L_ld M M M M M ?_|refine L_atf M (by assumption) M M M M ?_|refine L_box M (c:=[_,_,_]) M M M (fun _=>?_))
 refine yG M M (pv_eql M M) ?_
 refine zaE ?_
 exact ⟨[_],X,_,⟨rfl,trivial⟩,⟨rfl,rfl⟩,yJ.out⟩
theorem zdQ {G G' : Prop} (h : G') (f : Zh G'→G:=by intro h; (repeat (first|refine zB ?_|refine zE ?_|refine zK M M M ?_|refine L_skip M M ?_|refine zP ?_|refine zI M ?_|refine L_add M M (by omega) (by omega) M M ?_)); exact h.o) : G:=f ⟨h⟩
theorem zdC {G G' : Prop} (h : G') (f : Zh G'→G:=by intro h; (repeat (first|refine zE ?_|refine zK M M M ?_|refine zJ M ?_)); exact h.o) : G:=f ⟨h⟩
theorem zeX {G G' : Prop} (h : G') (f : Zh G'→G:=by intro h; (repeat (first|refine zF ?_|refine zB ?_|refine zE ?_|refine zK M M M ?_|refine zY M M M M M ?_|refine L_ld M M M M M ?_|refine zP ?_|refine zI M ?_|refine L_build (vs:=[_,_,_]) (cells:=[_,_,_,_,_,_,_,_,_,_,_,_,_,_,_,_,_]) M M M M ?_)); exact h.o) : G:=f ⟨h⟩
theorem coPromise_spec (w0:World) (b:Nat) (k:Coo) (m:Msg) (ve vd:Value) (S:Hp) (H:CooAt w0 b k S) (ha0:0≤k.acc∧k.acc≤7) (hbd0:((getA k.promised m.part).getD []).length≤1000000) :
  Spec Tryz.prog w0 117 [.pointer (some ⟨b,0,none⟩),.agg (cellsM m ve vd).toArray] S (fun r h'=>∃ h S2,OwL w0 0 (promC k m).2 r h∧CooAt w0 b (promC k m).1 S2∧S2+h=h'):=by
 have H0:=H
 obtain ⟨vp,pm,pp,ab,cb,h1,h2,h3,h4,h5,hp,ha,hc,hm,hq,rfl⟩:=H.out
 clear H
 obtain ⟨me,txn,parts,acc,l1,chosen,st,num,l2,l3,top⟩:=k
 simp only at ha0 hbd0 hp ha hc hm hq H0 ⊢
 obtain ⟨na,rfl⟩:=Int.eq_ofNat_of_zero_le ha0.1
 have nil1:∀ {Z:Hp},(promC ⟨me,txn,parts,na,l1,chosen,st,num,l2,l3,top⟩ m)=(⟨me,txn,parts,na,l1,chosen,st,num,l2,l3,top⟩,[])→CooAt w0 b ⟨me,txn,parts,na,l1,chosen,st,num,l2,l3,top⟩ Z →
   ∃ h S2,OwL w0 0 (promC ⟨me,txn,parts,na,l1,chosen,st,num,l2,l3,top⟩ m).2 (.slice none 0 0) h∧CooAt w0 b (promC ⟨me,txn,parts,na,l1,chosen,st,num,l2,l3,top⟩ m).1 S2∧S2+h=Z :=
  fun {Z} e hZ=>⟨0,Z,by rw [e]; exact OwL.nil _ _,by rw [e]; exact hZ,yA _⟩
 refine zN Tryz.func117 M Tryz.ntmps117 Tryz.results117 M fun fr=>?_
 repeat (first|refine zF ?_|refine zB ?_|refine zE ?_|refine zK M M M ?_|refine L_box M (c:=[_,_,_,_,_,_,_,_,_,_,_,_,_,_,_,_,_]) M M M (fun _=>?_))
 rename_i b1
 cases st
 ·refine yB [21] [0,1,2,3,4,5,6,7,8,9,10,11,12,13,14,15,16,17,18,19,20,21,22,23] (by kernel_rfl) M (by kernel_rfl) (by kernel_rfl) ?_
  repeat (first|refine yI ?_|refine yH M M M M M ?_|refine yD M M M M (zZ M M M) ?_|refine W_load M M M M (yE M) (zG M (zS M)) ?_|refine W_skip M M M M ?_|refine W_not M M M M ?_)
  refine zaB ?_
  exact ⟨[_],_,_,⟨rfl,trivial⟩,nil1 (by unfold promC; rw [if_pos (.inl M)]) H0,yJ.out⟩
 obtain ⟨pb,rfl,va,h4a,h4b,hA1,hA2,rfl⟩:=hm
 obtain ⟨qb,rfl,hQ⟩:=hq
 refine yB [21] [0,1,2,3,4,5,6,7,8,9,10,11,12,13,14,15,16,17,18,19,20,21,22,23] (by kernel_rfl) M (by kernel_rfl) (by kernel_rfl) ?_
 refine zaF ?_
 refine W_dec M M M M (pv_neq M M) (fun n1=>?_) (fun n1=>?_)
 ·refine zbV ?_
  refine zaB ?_
  exact ⟨[_],_,_,⟨rfl,trivial⟩,nil1 (by unfold promC; rw [if_pos (.inr (.inl n1))]) H0,yJ.out⟩
 refine zaF ?_
 refine W_eff M M M M (ev_mapGet (k:=m.part) M M hQ) (Kept.all _) ?_
 rintro _ _ ⟨rfl,rfl⟩
 refine ⟨zka,?_⟩
 rw [mapI_vI]
 skip
 refine W_dec M M M M (pv_gtr M M) (fun n2=>?_) (fun n2=>?_)
 ·refine zaD ?_
  refine zaB ?_
  exact ⟨[_],_,_,⟨rfl,trivial⟩,nil1 (by unfold promC; rw [if_pos (.inr (.inr n2))]) H0,yJ.out⟩
 refine zaD ?_
 repeat (first|refine zF ?_|refine zP ?_|refine zI M ?_)
 have hgo:¬ ((true=false)∨m.ballot≠num∨0<mapI l3 m.part):=by
  rintro (h|h|h)
  ·cases h
  ·exact n1 h
  ·exact n2 h
 obtain ⟨v,hx,hR,hgv,how,rfl,hup⟩:∃ (v:Value) (hx hR:Hp),(getA va m.part).getD (.slice none 0 0)=v∧OwL w0 0 ((getA l2 m.part).getD []) v hx∧h4b=hx+hR ∧
   ∀ {y:List Prm} {u:Value} {h3:Hp},OwL w0 0 y u h3→Assoc (fun x v h=>OwL w0 0 x v h) (updA l2 m.part y) (updA va m.part u) (h3+hR):=by
  rcases hg:getA l2 m.part with _|x
  ·exact ⟨.slice none 0 0,0,h4b,by rw [Assoc.none hA2 hg]; rfl,OwL.nil _ _,(hzero_add _).symm,fun {y u h3} hy=>Assoc.new hA2 hg hy⟩
  ·obtain ⟨v,q1,q2,e1,e2,e3,e4⟩:=Assoc.some hA2 hg
   exact ⟨v,q1,q2,by rw [e1]; rfl,e2,e3,fun {y u h3} hy=>e4 hy⟩
 refine yB [6] [0,1,2,3,4,5,6,7] (by kernel_rfl) M (by kernel_rfl) (by kernel_rfl) ?_
 refine zaF ?_
 refine W_eff M M M M (ev_mapGet (k:=m.part) M M hA1) (Kept.all _) ?_
 rintro _ _ ⟨rfl,rfl⟩
 refine ⟨zka,?_⟩
 rw [hgv]
 clear hgv
 generalize hl0:(getA l2 m.part).getD []=l at *
 obtain ⟨av,cv,rfl⟩:=how.shape
 refine zaD ?_
 repeat (first|refine zF ?_|refine zB ?_|refine zK M M M ?_|refine L_clo M M M ?_)
 have hcf:=containsFuncPrm_spec w0 (hx+pt b1 (.cells (cellsM m ve vd).toArray 55 (0,0))) (.slice av l.length cv) l 205 [.pointer (some ⟨b1,0,none⟩)] (fun p=>decide (p.src=m.src)) (how.rd (X:=0)) (by omega) (fun Y x e hx he=>by
  obtain rfl:=he
  exact promise1_spec w0 _ x m ve vd b1 at_box)
 refine zX M M (zQ M M M) hcf ?_
 rintro _ _ ⟨rfl,rfl⟩
 cases hany:l.any fun p=>decide (p.src=m.src)
 rotate_left
 ·refine zaB ?_
  exact ⟨[_],_,_,⟨rfl,trivial⟩,nil1 (by unfold promC; rw [if_neg hgo]; simp only; rw [hl0,if_pos hany]) H0,yJ.out⟩
 repeat (first|refine zF ?_|refine zB ?_|refine zE ?_|refine zK M M M ?_|refine zY M M M M M ?_|refine L_ld M M M M M ?_|refine zP ?_|refine zI M ?_|refine L_build (vs:=[_,_,_]) (cells:=[_,_,_]) M M M M ?_|refine L_bs (vs:=[_]) (cells:=[_,_,_]) M M M M M M (fun _=>?_))
 have hnew:Rep.rd w0 0 (⟨m.src,m.index,m.value⟩:Prm) [.int .i64 m.src,.int .i64 m.index,.int .i64 m.value]:=rfl
 refine L_eff M M (ev_appendL (X:=0) (h:=hx) M M how (rd_one M) (All2.one hnew) M M M M M (by rw [List.length_singleton]; omega)) ?_
 rintro v5 _ ⟨h6,ho6,rfl⟩
 have hlen:(l++[(⟨m.src,m.index,m.value⟩:Prm)]).length≤1000001:=by rw [List.length_append,List.length_singleton]; omega
 generalize hll:l++[(⟨m.src,m.index,m.value⟩:Prm)]=ll at *
 obtain ⟨a6,c6,rfl⟩:=ho6.shape
 repeat (first|refine zF ?_|refine zE ?_|refine zK M M M ?_)
 refine yB [7] [0,1,2,3,4,5,6,7] (by kernel_rfl) M (by kernel_rfl) (by kernel_rfl) ?_
 refine zaF ?_
 refine W_eff M M M M (ev_mapSet (k:=m.part) M M M hA1) (Kept.all _) ?_
 rintro _ _ ⟨h7,hA3,rfl⟩
 refine ⟨zka,?_⟩
 have hAs:=hup ho6
 repeat (refine yI ?_)
 refine zaP ?_
 refine yG M M (pv_mul M M (by omega) (by omega)) ?_
 refine zaO ?_
 have hpc:promC ⟨me,txn,parts,na,l1,chosen,true,num,l2,l3,top⟩ m=if 2*(ll.length:Int)≤na then (⟨me,txn,parts,na,l1,chosen,true,num,updA l2 m.part ll,l3,top⟩,[]) else
   (⟨me,txn,parts,na,l1,chosen,true,num,updA l2 m.part ll,updA l3 m.part 1,top⟩,allF me txn num (msg0 10 m.part (propV ll)) na):=by
  unfold promC
  rw [if_neg hgo]
  simp only
  rw [hl0,if_neg (by rw [hany]; simp),hll]
  split<;>rfl
 rw [hpc]
 refine yF M M (pv_leq M M) (fun n3=>?_) (fun n3=>?_)
 ·rw [if_pos n3]
  refine zaB ?_
  have hK:CooAt w0 b ⟨me,txn,parts,na,l1,chosen,true,num,updA l2 m.part ll,l3,top⟩ (cooC b me txn vp na (.map (some ab)) (.map (some cb)) (.bool true) num (.map (some pb)) (.map (some qb)) top+(h1+(h2+(h3+(h7+(h6+hR)+h5))))) :=
   ⟨⟨vp,.map (some pb),.map (some qb),ab,cb,h1,h2,h3,_,h5,hp,ha,hc,⟨pb,rfl,_,h7,h6+hR,hA3,hAs,rfl⟩,⟨qb,rfl,hQ⟩,rfl⟩⟩
  exact ⟨[_],_,_,⟨rfl,trivial⟩,⟨0,_,OwL.nil _ _,hK,yA _⟩,yJ.out⟩
 rw [if_neg n3]
 refine zbP ?_
 refine yB [6] [0,1,2,3,4,5,6] (by kernel_rfl) M (by kernel_rfl) (by kernel_rfl) ?_
 refine zaF ?_
 refine W_eff M M M M (ev_mapSet (k:=m.part) M M M hQ) (Kept.all _) ?_
 rintro _ _ ⟨h8,hQ3,rfl⟩
 refine ⟨zka,?_⟩
 rw [updA_vI] at hQ3
 repeat (refine yI ?_)
 refine zaS ?_
 have hK:CooAt w0 b ⟨me,txn,parts,na,l1,chosen,true,num,updA l2 m.part ll,updA l3 m.part 1,top⟩ (cooC b me txn vp na (.map (some ab)) (.map (some cb)) (.bool true) num (.map (some pb)) (.map (some qb)) top+(h1+(h2+(h3+(h7+(h6+hR)+h8))))) :=
  ⟨⟨vp,.map (some pb),.map (some qb),ab,cb,h1,h2,h3,_,h8,hp,ha,hc,⟨pb,rfl,_,h7,h6+hR,hA3,hAs,rfl⟩,⟨qb,rfl,hQ3⟩,rfl⟩⟩
 have hrl:RdL w0 h6 (.slice a6 ll.length c6) ll:=ho6.rdh
 refine hold_count ll.length (fun i g L=>∃ (v a:Int) (R:Hp),g=[(0,.pointer (some ⟨b,0,none⟩)),(3,.pointer (some ⟨b1,0,none⟩)),(6,.int .i64 v),(7,.int .i64 a),(75,.slice a6 ll.length c6),(76,.int .i64 ll.length),(77,.int .i64 i)]∧bestV ll (0,0)=bestV (ll.drop i) (v,a) ∧
  L=cooC b me txn vp na (.map (some ab)) (.map (some cb)) (.bool true) num (.map (some pb)) (.map (some qb)) top+(h1+(h2+(h3+(h7+(h6+hR)+h8))))+pt b1 (.cells (cellsM m ve vd).toArray 55 (0,0))+fr+R) _
  ⟨0,0,_,rfl,rfl,yJ.out⟩ zsb ?_
 rintro i g L hi ⟨v,a,R,rfl,hv,rfl⟩
 refine zaH ?_
 refine yF M M (pv_lss M M) (fun n4=>?_) (fun n4=>?_)
 ·have hix:i<ll.length:=by omega
  obtain ⟨bq,oq,rfl,e,rfl,hat⟩:=hrl.at hix
  rw [List.drop_eq_getElem_cons hix] at hv
  simp only [bestV] at hv
  generalize ll[i]=p at hat hv
  have tk:(p.value=1∨p.value=2)→(v=0∨a<p.index)→bestV ll (0,0)=bestV (ll.drop (i+1)) (p.value,p.index):=fun c1 c2=>by rw [hv,if_pos ⟨c1,c2⟩]
  have ntk:¬ ((p.value=1∨p.value=2)∧(v=0∨a<p.index))→bestV ll (0,0)=bestV (ll.drop (i+1)) (v,a):=fun c=>by rw [hv,if_neg c]
  repeat (first|refine zF ?_|refine zR ?_|refine zB ?_|refine zE ?_|refine zY M M M M M ?_|refine L_ld M M M M M ?_|refine zP ?_|refine zJ M ?_|refine L_idx M M (by omega) M M ?_|refine L_atA M (by assumption) M M M M ?_|refine L_stA M (vs:=[_,_,_]) M M M M (c':=[_,_,_]) M M ?_|refine L_alloc (c:=[_,_,_]) M M M (fun _=>?_))
  refine yF M M (pv_eql M M) (fun m1=>?_) (fun m1=>?_)
  ·repeat (first|refine zK M M M ?_|refine L_skip M M ?_)
   refine yF M M (pv_eql M M) (fun m2=>?_) (fun m2=>?_)
   ·repeat (first|refine zE ?_|refine zK M M M ?_|refine L_skip M M ?_|refine zJ M ?_)
    refine yB [] [0,1,2,3,4,5] (by kernel_rfl) M (by kernel_rfl) (by kernel_rfl) ?_
    refine zcR ?_
    refine zaI ?_
    exact ⟨hix,_,zsb,p.value,p.index,_,rfl,tk (.inl m1) (.inl m2),yJ.out⟩
   ·refine zaO ?_
    refine yF M M (pv_gtr M M) (fun m3=>?_) (fun m3=>?_)
    ·refine zdC ?_
     refine yB [] [0,1,2,3,4,5] (by kernel_rfl) M (by kernel_rfl) (by kernel_rfl) ?_
     refine zcR ?_
     refine zaI ?_
     exact ⟨hix,_,zsb,p.value,p.index,_,rfl,tk (.inl m1) (.inr m3),yJ.out⟩
    ·refine zaJ ?_
     exact ⟨hix,_,zsb,v,a,_,rfl,ntk (fun c=>c.2.elim m2 m3),yJ.out⟩
  ·refine zaO ?_
   refine yF M M (pv_eql M M) (fun m2=>?_) (fun m2=>?_)
   ·repeat (refine zK M M M ?_)
    refine yF M M (pv_eql M M) (fun m3=>?_) (fun m3=>?_)
    ·repeat (first|refine zE ?_|refine zK M M M ?_|refine L_skip M M ?_|refine zJ M ?_)
     refine yB [] [0,1,2,3,4,5] (by kernel_rfl) M (by kernel_rfl) (by kernel_rfl) ?_
     refine zcR ?_
     refine zaI ?_
     exact ⟨hix,_,zsb,p.value,p.index,_,rfl,tk (.inr m2) (.inl m3),yJ.out⟩
    ·refine zaO ?_
     refine yF M M (pv_gtr M M) (fun m4=>?_) (fun m4=>?_)
     ·refine zdC ?_
      refine yB [] [0,1,2,3,4,5] (by kernel_rfl) M (by kernel_rfl) (by kernel_rfl) ?_
      refine zcR ?_
      refine zaI ?_
      exact ⟨hix,_,zsb,p.value,p.index,_,rfl,tk (.inr m2) (.inr m4),yJ.out⟩
     ·refine zaJ ?_
      exact ⟨hix,_,zsb,v,a,_,rfl,ntk (fun c=>c.2.elim m3 m4),yJ.out⟩
   ·refine zdQ ?_
    exact ⟨hix,_,zsb,v,a,_,rfl,ntk (fun c=>c.1.elim m1 m2),yJ.out⟩
 ·obtain rfl:i=ll.length:=by omega
  rw [List.drop_length] at hv
  simp only [bestV] at hv
  unfold propV
  rw [hv]
  simp only
  refine zbA ?_
  refine yF M M (pv_eql M M) (fun m1=>?_) (fun m1=>?_)
  ·rw [if_pos m1]
   repeat (first|refine zF ?_|refine zB ?_|refine zE ?_|refine zK M M M ?_|refine zY M M M M M ?_|refine L_ld M M M M M ?_|refine zJ M ?_|refine L_build (vs:=[_,_,_]) (cells:=[_,_,_,_,_,_,_,_,_,_,_,_,_,_,_,_,_]) M M M M ?_)
   refine zX M M (zQ M M M) (all_spec w0 b me txn vp na (.map (some ab)) (.map (some cb)) (.bool true) num (.map (some pb)) (.map (some qb)) top (msg0 10 m.part 2) M M (by omega)) ?_
   rintro vm _ ⟨ho,hoo,rfl⟩
   refine zaE ?_
   exact ⟨[_],_,_,⟨rfl,trivial⟩,⟨ho,_,hoo,hK,rfl⟩,yJ.out⟩
  ·rw [if_neg m1]
   refine zeX ?_
   refine zX M M (zQ M M M) (all_spec w0 b me txn vp na (.map (some ab)) (.map (some cb)) (.bool true) num (.map (some pb)) (.map (some qb)) top (msg0 10 m.part v) M M (by omega)) ?_
   rintro vm _ ⟨ho,hoo,rfl⟩
   refine zaE ?_
   exact ⟨[_],_,_,⟨rfl,trivial⟩,⟨ho,_,hoo,hK,rfl⟩,yJ.out⟩
theorem zeY {G G' : Prop} (h : G') (f : Zh G'→G:=by intro h; (repeat (first|refine zB ?_|refine zE ?_|refine zK M M M ?_|refine zJ M ?_|refine L_ldA M (vs:=[_,_,_,_,_,_,_,_,_,_,_,_,_,_,_,_,_]) M M M M M ?_)); exact h.o) : G:=f ⟨h⟩
theorem coStep_spec (w0:World) (b:Nat) (k:Coo) (m:Msg) (ve vd:Value) (S:Hp) (H:CooAt w0 b k S) (ha0:0≤k.acc∧k.acc≤7) (hpl:k.parts.length≤1000000) (hb1:((getA k.promised m.part).getD []).length≤1000000) (hb2:((getA k.accepted (m.part,m.ballot,m.value)).getD []).length≤1000000) :
  Spec Tryz.prog w0 56 [.pointer (some ⟨b,0,none⟩),.agg (cellsM m ve vd).toArray] S (fun r h'=>∃ h S2,OwL w0 0 (stepC k m).2 r h∧CooAt w0 b (stepC k m).1 S2∧S2+h=h'):=by
 have hacc:=coAccept_spec w0 b k m ve vd S H hb2
 have hprm:=coPromise_spec w0 b k m ve vd S H ha0 hb1
 have H0:=H
 obtain ⟨vp,pm,pp,ab,cb,h1,h2,h3,h4,h5,hp,ha,hc,hm,hq,rfl⟩:=H.out
 clear H
 obtain ⟨ap,cp,rfl⟩:=hp.shape
 have hrp:RdRow w0 h1 1 (.slice ap k.parts.length cp) (enc1 k.parts):=rdL_ints.1 hp.rdh
 have nil1:∀ {Z:Hp},stepC k m=(k,[])→CooAt w0 b k Z→∃ h S2,OwL w0 0 (stepC k m).2 (.slice none 0 0) h∧CooAt w0 b (stepC k m).1 S2∧S2+h=Z :=
  fun {Z} e hZ=>⟨0,Z,by rw [e]; exact OwL.nil _ _,by rw [e]; exact hZ,yA _⟩
 refine zN Tryz.func56 M Tryz.ntmps56 Tryz.results56 M fun fr=>?_
 repeat (first|refine zF ?_|refine zB ?_|refine zE ?_|refine zK M M M ?_|refine L_box M (c:=[_,_,_,_,_,_,_,_,_,_,_,_,_,_,_,_,_]) M M M (fun _=>?_))
 rename_i b1
 refine yB [28] [0,1,2,3,4,5,6,7,8,9,10,11,12,13,14,15,16,17,18,19,20,21,22,23,24,25,26,27,28,29,30] (by kernel_rfl) M (by kernel_rfl) (by kernel_rfl) ?_
 refine zaF ?_
 refine W_dec M M M M (pv_neq M M) (fun n1=>?_) (fun n1=>?_)
 ·refine zbV ?_
  refine zaB ?_
  exact ⟨[_],_,_,⟨rfl,trivial⟩,nil1 (by unfold stepC; rw [if_pos (.inl n1)]) H0,yJ.out⟩
 refine zaF ?_
 refine W_dec M M M M (pv_lss M M) (fun n2=>?_) (fun n2=>?_)
 ·refine zbV ?_
  refine zaB ?_
  exact ⟨[_],_,_,⟨rfl,trivial⟩,nil1 (by unfold stepC; rw [if_pos (.inr (.inl n2))]) H0,yJ.out⟩
 refine zaF ?_
 refine W_dec M M M M (pv_gtr M M) (fun n3=>?_) (fun n3=>?_)
 ·refine zbV ?_
  refine zaB ?_
  exact ⟨[_],_,_,⟨rfl,trivial⟩,nil1 (by unfold stepC; rw [if_pos (.inr (.inr (.inl n3)))]) H0,yJ.out⟩
 refine zaF ?_
 refine W_call M M M M (zQ M M M) (containsI_spec w0 h1 _ k.parts m.part hrp (by omega)) (Kept.all _) ?_
 rintro _ _ ⟨rfl,rfl⟩
 refine ⟨zka,?_⟩
 by_cases n4:m.part∈k.parts
 rotate_left
 ·rw [decide_eq_false n4]
  refine zaD ?_
  refine zaB ?_
  exact ⟨[_],_,_,⟨rfl,trivial⟩,nil1 (by unfold stepC; rw [if_pos (.inr (.inr (.inr n4)))]) H0,yJ.out⟩
 rw [decide_eq_true n4]
 refine zaD ?_
 repeat (first|refine zF ?_|refine zR ?_|refine zB ?_|refine zY M M M M M ?_|refine L_ld M M M M M ?_|refine zP ?_|refine zI M ?_)
 have hgo:¬ (m.txn≠k.txn∨m.src<1∨k.acc<m.src∨m.part∉k.parts):=by
  rintro (h|h|h|h)
  ·exact n1 h
  ·exact n2 h
  ·exact n3 h
  ·exact h n4
 have e0:stepC k m=if m.kind≠11∧m.kind≠9 then (k,[]) else if m.ok=false then ({ k with top:=max k.top m.index },[]) else if m.kind=11 then (accC k m,[]) else promC k m:=by
  unfold stepC
  rw [if_neg hgo]
 refine yF M M (pv_neq M M) (fun k1=>?_) (fun k1=>?_)
 ·refine zaO ?_
  refine yF M M (pv_neq M M) (fun k2=>?_) (fun k2=>?_)
  ·refine zbD ?_
   exact ⟨[_],_,_,⟨rfl,trivial⟩,nil1 (by rw [e0,if_pos ⟨k1,k2⟩]) H0,yJ.out⟩
  ·have e1:stepC k m=if m.ok=false then ({ k with top:=max k.top m.index },[]) else promC k m:=by
    rw [e0,if_neg (fun h=>k2 h.2)]
    split
    ·rfl
    ·first|rfl|rw [if_neg k1]
   refine zbG ?_
   refine hold_cond (t:=!m.ok) M (fun ho=>?_) (fun ho=>?_)
   ·rw [e1,if_pos (by simpa using ho)]
    skip
    refine yB [10] [0,1,2,3,4,5,6,7,8,9,10] (by kernel_rfl) M (by kernel_rfl) (by kernel_rfl) ?_
    refine zaF ?_
    refine yD M M M M (pv_max M M) ?_
    rw [show (if k.top<m.index then m.index else k.top)=max k.top m.index by split<;>omega]
    refine zaN ?_
    refine W_eff M M M M (ev_store M M M M M (c':=(_::_::_::_::_::_::_::_::_::_::_::[])) M) (.keep (.drop (by kernel_rfl) .nil)) ?_
    rintro _ _ rfl
    refine ⟨zka,?_⟩
    repeat (refine yI ?_)
    refine zbE ?_
    have hK:CooAt w0 b { k with top:=max k.top m.index } (cooC b k.me k.txn (.slice ap k.parts.length cp) k.acc (.map (some ab)) (.map (some cb)) (.bool k.started) k.number pm pp (max k.top m.index)+(h1+(h2+(h3+(h4+h5))))) :=
     ⟨⟨_,pm,pp,ab,cb,h1,h2,h3,h4,h5,hp,ha,hc,hm,hq,rfl⟩⟩
    exact ⟨[_],_,_,⟨rfl,trivial⟩,⟨0,_,OwL.nil _ _,hK,yA _⟩,yJ.out⟩
   ·rw [e1,if_neg (by simpa using ho)]
    refine zcD ?_
    refine L_no M M (pv_eql M M) k1 ?_
    refine zcH ?_
    refine zX M M (zQ M M M) hprm ?_
    rintro vm _ ⟨ho2,S2,hoo,hK,rfl⟩
    refine zaE ?_
    exact ⟨[_],_,_,⟨rfl,trivial⟩,⟨ho2,S2,hoo,hK,rfl⟩,yJ.out⟩
 ·have e1:stepC k m=if m.ok=false then ({ k with top:=max k.top m.index },[]) else (accC k m,[]):=by
   rw [e0,if_neg (fun h=>k1 h.1)]
   split
   ·rfl
   ·first|rfl|rw [if_pos (by simpa using k1)]
  refine zeE ?_
  refine hold_cond (t:=!m.ok) M (fun ho=>?_) (fun ho=>?_)
  ·rw [e1,if_pos (by simpa using ho)]
   skip
   refine yB [10] [0,1,2,3,4,5,6,7,8,9,10] (by kernel_rfl) M (by kernel_rfl) (by kernel_rfl) ?_
   refine zaF ?_
   refine yD M M M M (pv_max M M) ?_
   rw [show (if k.top<m.index then m.index else k.top)=max k.top m.index by split<;>omega]
   refine zaN ?_
   refine W_eff M M M M (ev_store M M M M M (c':=(_::_::_::_::_::_::_::_::_::_::_::[])) M) (.keep (.drop (by kernel_rfl) .nil)) ?_
   rintro _ _ rfl
   refine ⟨zka,?_⟩
   repeat (refine yI ?_)
   refine zbE ?_
   have hK:CooAt w0 b { k with top:=max k.top m.index } (cooC b k.me k.txn (.slice ap k.parts.length cp) k.acc (.map (some ab)) (.map (some cb)) (.bool k.started) k.number pm pp (max k.top m.index)+(h1+(h2+(h3+(h4+h5))))) :=
    ⟨⟨_,pm,pp,ab,cb,h1,h2,h3,h4,h5,hp,ha,hc,hm,hq,rfl⟩⟩
   exact ⟨[_],_,_,⟨rfl,trivial⟩,⟨0,_,OwL.nil _ _,hK,yA _⟩,yJ.out⟩
  ·rw [e1,if_neg (by simpa using ho)]
   refine zcD ?_
   refine L_yes M M (pv_eql M M) (by simpa using k1) ?_
   refine zeY ?_
   refine zX M M (zQ M M M) hacc ?_
   rintro vm _ ⟨rfl,S2,hK,rfl⟩
   refine zbE ?_
   exact ⟨[_],_,_,⟨rfl,trivial⟩,⟨0,S2,OwL.nil _ _,hK,yA _⟩,yJ.out⟩
set_option maxHeartbeats 4000000
theorem indexFuncDbt_spec (w0:World) (X:Hp) (v:Value) (xs:List Dbt) (k0:Nat) [hf:Fun Tryz.prog k0] (caps:List Value) (p:Dbt→Bool) (hv:RdL w0 X v xs) (hl:xs.length≤1000000000)
  (hp:∀ Y x e,x∈xs→Rep.rd w0 Y x e→Spec Tryz.prog w0 k0 (.agg e.toArray::caps) X (fun r h'=>r=.bool (p x)∧X=h')) :
  Spec Tryz.prog w0 158 [v,.func (.func k0) #[] caps.toArray] X (fun r h'=>r=.int .i64 (idxF p xs)∧X=h'):=by
 obtain ⟨a,c,rfl⟩:=hv.shape
 refine zN Tryz.func158 M Tryz.ntmps158 Tryz.results158 M fun fr=>?_
 refine zaS ?_
 refine hold_count xs.length (fun k g L=>∃ R:Hp,g=[(0,.slice a xs.length c),(1,.func (.func k0) #[] caps.toArray),(7,.int .i64 xs.length),(8,.int .i64 k)]∧L=X+fr+R∧∀ x∈xs.take k,p x=false) _ ⟨0,rfl,(yA _).symm,by simp⟩ zsb ?_
 rintro k g L hk ⟨R,rfl,rfl,hpre⟩
 refine zaH ?_
 refine yF M M (pv_lss M M) (fun h2=>?_) (fun h2=>?_)
 ·have hx:k<xs.length:=by omega
  obtain ⟨b2,o2,rfl,e,hr,hat⟩:=hv.at hx
  refine zcA ?_
  refine L_load M M (yE M) (zH M hat (beq_iff_eq.2 (Rep.len hr))) ?_
  refine zX M M (zQ M M (by simp<;>rfl)) (hp X xs[k] e (List.getElem_mem hx) hr) ?_
  rintro _ _ ⟨rfl,rfl⟩
  cases h3:p xs[k]
  ·refine zaJ ?_
   exact ⟨hx,_,zsb,_,rfl,yJ.out,all_take_succ hx hpre h3⟩
  ·refine zaB ?_
   exact ⟨[_],X,_,⟨rfl,trivial⟩,⟨by rw [idxF_hit hx h3 hpre]; rfl,rfl⟩,yJ.out⟩
 ·refine zaK ?_
  rw [List.take_of_length_le (by omega)] at hpre
  exact ⟨[_],X,_,⟨rfl,trivial⟩,⟨by rw [idxF_miss hpre]; rfl,rfl⟩,yJ.out⟩
theorem deleteFuncDbt_spec (w0:World) (X:Hp) (xs:List Dbt) (v:Value) (h:Hp) (k0:Nat) [hf:Fun Tryz.prog k0] (caps:List Value) (p:Dbt→Bool) (hr:OwL w0 X xs v h) (hl:xs.length≤1000000000)
  (hp:∀ Y x e,x∈xs→Rep.rd w0 Y x e→Spec Tryz.prog w0 k0 (.agg e.toArray::caps) X (fun r h'=>r=.bool (p x)∧X=h')) :
  Spec Tryz.prog w0 124 [v,.func (.func k0) #[] caps.toArray] (X+h) (fun r h'=>∃ h2,OwL w0 X (xs.filter fun x=>!p x) r h2∧X+h2=h'):=by
 have hif:=indexFuncDbt_spec w0 (X+h) v xs k0 caps p hr.rd0 hl (fun Y x e hx he=>Spec.frameL M (hp Y x e hx he))
 obtain ⟨es,h1,h2⟩:=id hr
 obtain ⟨a,c,rfl⟩:=hr.shape
 have hlen:=h2.length
 refine zN Tryz.func124 M Tryz.ntmps124 Tryz.results124 M fun fr=>?_
 refine zaC ?_
 refine zX M M (zQ M M M) hif ?_
 rintro _ _ ⟨rfl,rfl⟩
 refine zaC ?_
 rcases idxF_cases p xs with ⟨hi,hall⟩|⟨i0,hi0,hi,hpi,hall⟩
 ·rw [hi]
  refine L_yes M M (pv_eql M M) M ?_
  refine zaB ?_
  exact ⟨[_],X+h,_,⟨rfl,trivial⟩,⟨h,by rw [List.filter_eq_self.2 (fun x hx=>by rw [hall x hx]; rfl)]; exact hr,rfl⟩,yJ.out⟩
 ·rw [hi]
  refine L_no M M (pv_eql M M) (by omega) ?_
  refine zeQ ?_
  obtain ⟨b,cap,spare,e1,rfl,hes,hcap,hmax,hsp⟩:=h1.nonempty (by intro e; subst e; simp at hlen; omega)
  simp only [Value.slice.injEq] at e1
  obtain ⟨rfl,-,rfl⟩:=e1
  rw [hlen] at hcap hsp
  change spare.length=(c - xs.length)*3 at hsp
  have hei0:i0<es.length:=by omega
  refine hold_loop (fun m g L=>∃ (i j:Nat) (fs ms:List (List Value)) (R:Hp),fs.length=i∧i+ms.length=j∧i<j∧j≤xs.length∧m=xs.length - j ∧
    g=[(0,.slice (some ⟨b,0,none⟩) xs.length c),(1,.func (.func k0) #[] caps.toArray),(5,.int .i64 i),(6,.int .i64 j)] ∧
    All2 (Rep.rd w0 X) ((xs.take j).filter fun x=>!p x) fs∧(∀ e∈ms,e.length=3) ∧
    L=X+pt b (.cells ((fs++(ms++es.drop j)).flatten++spare).toArray 195 (0,0))+fr+R) _ _
   ⟨i0,i0+1,es.take i0,[es[i0]],0,by rw [List.length_take]; omega,by simp,by omega,by omega,rfl,rfl,?_,?_,?_⟩ zsb ?_
  ·rw [List.take_succ_eq_append_getElem hi0,List.filter_append,List.filter_cons,hpi,List.filter_nil]
   simp only [Bool.not_true,Bool.false_eq_true,if_false,List.append_nil]
   rw [List.filter_eq_self.2 (fun x hx=>by rw [hall x hx]; rfl)]
   exact h2.take i0
  ·intro e he
   rw [List.mem_singleton] at he; subst he
   exact hes _ (List.getElem_mem hei0)
  ·rw [show es.take i0++([es[i0]]++es.drop (i0+1))=es by rw [List.singleton_append,← List.drop_eq_getElem_cons hei0,List.take_append_drop],yA]
   rfl
  rintro m g L ⟨i,j,fs,ms,R,rfl,hms,hij,hj,rfl,rfl,hfs,hmz,rfl⟩
  have hfl:∀ e∈fs,e.length=3:=hfs.lens
  have hcur:∀ e∈fs++(ms++es.drop j),e.length=3:=by
   intro e he
   rcases List.mem_append.1 he with he|he
   ·exact hfl e he
   ·rcases List.mem_append.1 he with he|he
    ·exact hmz e he
    ·exact hes e (List.mem_of_mem_drop he)
  refine zaP ?_
  refine yF M M (pv_lss M M) (fun n2=>?_) (fun n2=>?_)
  ·have hx:j<xs.length:=by omega
   obtain ⟨e,hej,hre⟩:=h2.get hx
   have hcj:(fs++(ms++es.drop j))[j]?=some e:=by
    rw [List.getElem?_append_right (by omega),List.getElem?_append_right (by omega),List.getElem?_drop,← hej]
    congr 1; omega
   have hat:At w0 _ b (0+j*3) e:=at_row (spare:=spare) (E:=195) (fz:=(0,0)) hcur hcj
   have hd:es.drop j=e::es.drop (j+1):=by
    have:j<es.length:=by omega
    rw [List.drop_eq_getElem_cons this]
    rw [List.getElem?_eq_getElem this] at hej
    rw [Option.some.inj hej]
   have htk:(xs.take (j+1)).filter (fun x=>!p x)=(xs.take j).filter (fun x=>!p x)++(if p xs[j]=true then [] else [xs[j]]):=by
    rw [List.take_succ_eq_append_getElem hx,List.filter_append]
    congr 1
    by_cases h:p xs[j]=true<;>simp [h]
   have hel:=Rep.len hre
   obtain ⟨av,cv,av2,cv2,rfl,hvd,hvd2⟩:=id hre
   repeat (first|refine zF ?_|refine zR ?_|refine zB ?_|refine zE ?_|refine zK M M M ?_|refine zP ?_|refine zJ M ?_|refine L_idx M M (by omega) M M ?_|refine L_atA M (by assumption) M M M M ?_|refine L_ldA M (vs:=[_,_,_]) M M M M M ?_|refine L_stA M (vs:=[_,_,_]) M M M M (c':=[_,_,_]) M M ?_|refine L_alloc (c:=[_,_,_]) M M M (fun _=>?_))
   refine zX M M (zQ M M (by simp<;>rfl)) (hp X xs[j] _ (List.getElem_mem hx) hre) ?_
   rintro _ _ ⟨rfl,rfl⟩
   cases h3:p xs[j]
   ·rw [if_neg (by rw [h3]; simp)] at htk
    obtain ⟨r0,rs,hr0,hrl,ms',hms',hml⟩:∃ r0 rs,ms++es.drop j=r0::rs∧r0.length=3∧∃ ms',rs=ms'++es.drop (j+1)∧ms'.length=ms.length:=by
     cases ms with
     | nil=>exact ⟨_,_,hd,hel,[],rfl,rfl⟩
     | cons m0 ms1=>exact ⟨m0,ms1++es.drop j,rfl,hmz m0 (by simp),ms1++(es.drop j).take 1,by rw [hd]; simp,by rw [hd]; simp⟩
    have hmz':∀ e∈ms',e.length=3:=by
     intro e' he'
     exact hcur e' (List.mem_append_right _ (by rw [hr0,hms']; exact List.mem_cons_of_mem _ (List.mem_append_left _ he')))
    rw [hr0]
    repeat (first|refine zF ?_|refine zB ?_|refine zE ?_|refine zK M M M ?_|refine zJ M ?_|refine L_idx M M (by omega) M M ?_|refine L_ldA M (vs:=[_,_,_]) M M M M M ?_)
    refine L_eff M M (ev_storeA (vs:=[_,_,_]) M M M M (c:=(fs++r0::rs).flatten++spare) (by simp only [List.flatten_append,List.length_append,length_flat hfl,List.flatten_cons,hrl]; simp; omega) (c':=(fs++[[_,_,_]]++rs).flatten++spare) (splice_row hfl hrl M)) ?_
    rintro _ _ rfl
    refine zaI ?_
    exact ⟨xs.length - (j+1),_,by omega,zsb,fs.length+1,j+1,fs++[_],ms',_,by simp,by omega,by omega,by omega,rfl,rfl,by rw [htk]; exact hfs.append (All2.one hre),hmz',by rw [← hms']; exact yJ.out⟩
   ·rw [if_pos h3,List.append_nil] at htk
    refine zaJ ?_
    refine ⟨xs.length - (j+1),_,by omega,zsb,fs.length,j+1,fs,ms++[_],_,rfl,by simp; omega,by omega,by omega,rfl,rfl,by rw [htk]; exact hfs,?_,by rw [List.append_assoc ms,List.singleton_append,← hd]; exact yJ.out⟩
    intro e' he'
    rcases List.mem_append.1 he' with he'|he'
    ·exact hmz e' he'
    ·rw [List.mem_singleton] at he'; subst he'; exact hel
  ·obtain rfl:j=xs.length:=by omega
   rw [List.take_length] at hfs
   rw [List.drop_of_length_le (by omega),List.append_nil]
   refine zbA ?_
   refine yG M M (pv_slice_l (l:=fs.length) M M (by omega)) ?_
   rw [shiftA_some (b:=b) (l:=fs.length) (cap:=c) (by omega)]
   have lf:fs.flatten.length=fs.length*3:=length_flat hfl
   have lm:ms.flatten.length=ms.length*3:=length_flat hmz
   refine L_eff M M (ev_clearZ M M M (by rw [List.length_append,List.flatten_append,List.length_append,lf,lm]; omega)) ?_
   rintro _ _ ⟨zs,hzs,rfl⟩
   rw [show 0+fs.length*3=fs.flatten.length by omega,List.flatten_append,List.append_assoc,splice_append ms.flatten zs (by rw [lm,hzs]; omega) spare]
   refine zaC ?_
   refine yG M M (pv_slice_h (m:=fs.length) M M (by omega)) ?_
   refine zaE ?_
   exact ⟨[_],X+pt b (.cells (fs.flatten++(zs++spare)).toArray 195 (0,0)),_,⟨rfl,trivial⟩,⟨_,⟨fs,isRow_block (E:=195) (b:=b) hfl (by omega) hmax (by rw [List.length_append,hzs,hsp]; show _=(c - fs.length)*3; omega),hfs⟩,rfl⟩,yJ.out⟩
theorem startL_bare {k:Coo} {n:Int} {m:Msg} (h:m∈startL k n):m.entries=[]∧m.data=[]:=by
 unfold startL at h
 obtain ⟨p,_,h⟩:=List.mem_flatMap.1 h
 unfold allF at h
 obtain ⟨i,_,rfl⟩:=List.mem_map.1 h
 exact ⟨rfl,rfl⟩
theorem zbO {G G' : Prop} (h : G') (f : Zh G'→G:=by intro h; (repeat (first|refine zF ?_|refine zB ?_|refine zE ?_|refine zK M M M ?_|refine zY M M M M M ?_|refine L_ld M M M M M ?_|refine L_st M M M (c':=(_::_::_::_::_::_::_::_::_::_::_::_::_::_::_::_::_::_::_::_::_::_::_::_::_::_::_::_::_::_::_::_::_::_::_::_::_::_::[])) M M M M ?_)); exact h.o) : G:=f ⟨h⟩
section
variable (w0:World) (X:Hp) (b tb:Nat) (c:Cl) (S:Hp) (n:Nat)
theorem starting_spec (hS:CliT w0 X b tb c S) (hZ:Sz n c) (hn:n+100≤100000000) (hc:c.coord.isSome=true) :
  Spec Tryz.prog w0 84 [pB b] (X+S) (fun r h'=>After w0 X b tb (startF c) h'):=by
 obtain ⟨k,hk⟩:=Option.isSome_iff_exists.1 hc
 have hKz:=hZ.co k hk
 have htop:=hKz.top
 have hrd:=hZ.num.1
 have hid:=hZ.bd.id
 have e1:(k.top).fdiv (2 ^ (min (20:Int).toNat IntKind.i64.bits))=k.top / 1048576:=by
  rw [show min (20:Int).toNat IntKind.i64.bits=20 from rfl,Int.fdiv_eq_ediv_of_nonneg _ (by decide)]; rfl
 have e3:startF c=putsF { c with started:=c.clock,round:=max c.round (k.top / 1048576)+1,coord:=some (startC k (ballotF (max c.round (k.top / 1048576)+1) c.addr)) } (startL k (ballotF (max c.round (k.top / 1048576)+1) c.addr)):=by unfold startF; rw [hk]
 rw [e3]
 clear e3
 obtain ⟨⟨vmem,vr0,vsets,vmr,vg,ve,vd,vrq,vop,vow,vw,vco,vou,van⟩,ps,hG,hE,hD,hR,hT,hK,hO,P,rfl⟩:=hS
 obtain ⟨kb,hvk,hKA⟩:∃ kb,vco=pB kb∧CooAt w0 kb k hK:=by have:=P.coord; rw [hk] at this; exact this
 subst hvk
 have hstart:=fun m=>coStart_spec w0 kb k m hK hKA (by have:=hKz.parts; omega) hKz.acc.1 hKz.acc.2
 have htp:Spec Tryz.prog w0 166 [.pointer (some ⟨kb,0,none⟩)] hK (fun r h'=>r=.int .i64 k.top∧hK=h'):=by
  obtain ⟨vp,pm,pp,ab,cb,h1,h2,h3,h4,h5,-,-,-,-,-,hKe⟩:=hKA.out
  exact Spec.frameL hKe (top_spec w0 kb k.me k.txn vp k.acc (.map (some ab)) (.map (some cb)) (.bool k.started) k.number pm pp k.top)
 refine zN Tryz.func84 M Tryz.ntmps84 Tryz.results84 M fun fr=>?_
 refine zbO ?_
 refine yB [9,15] [0,1,2,3,4,5,6,7,8,9,10,11,12,13,14,15] (by kernel_rfl) M (by kernel_rfl) (by kernel_rfl) ?_
 refine zaF ?_
 refine W_call M M M M (zQ M M M) htp (Kept.all _) ?_
 rintro _ _ ⟨rfl,rfl⟩
 refine ⟨zka,?_⟩
 skip
 refine yD M M M M (pv_shr M M (by omega)) ?_
 rw [e1]
 skip
 refine yD M M M M (pv_max M M) ?_
 rw [show (if c.round<k.top / 1048576 then k.top / 1048576 else c.round)=max c.round (k.top / 1048576) by split<;>omega]
 have hmr:0≤max c.round (k.top / 1048576)∧max c.round (k.top / 1048576)≤9100000000000:=by omega
 generalize max c.round (k.top / 1048576)=mr at *
 repeat (first|refine yH M M M M M ?_|refine yD M M M M (zZ M M M) ?_|refine yD M M M M (pv_add M M (by omega) (by omega)) ?_)
 refine W_eff M M M M (ev_store M M M M M (c':=(_::_::_::_::_::_::_::_::_::_::_::_::_::_::_::_::_::_::_::_::_::_::_::_::_::_::_::_::_::_::_::_::_::_::_::_::_::_::[])) M) (.keep (.drop (by kernel_rfl) .nil)) ?_
 rintro _ _ rfl
 refine ⟨zka,?_⟩
 repeat (refine yI ?_)
 skip
 refine yB [15,16] [0,1,2,3,4,5,6,7,8,9,10,11,12,13,14,15,16] (by kernel_rfl) M (by kernel_rfl) (by kernel_rfl) ?_
 refine zaF ?_
 refine yD M M M M (pv_shl M M (by omega)) ?_
 refine zaF ?_
 refine yD M M M M (pv_add_w M M) ?_
 rw [show IntKind.i64.wrap (IntKind.i64.wrap ((mr+1)*2 ^ (min (20:Int).toNat IntKind.i64.bits))+c.addr)=ballotF (mr+1) c.addr from rfl]
 generalize ballotF (mr+1) c.addr=bl at *
 skip
 refine W_call M M M M (zQ M M M) (hstart bl) (Kept.all _) ?_
 rintro vm _ ⟨ho,S2,hoo,hK2,rfl⟩
 refine ⟨zka,?_⟩
 have hll:=startL_len hKz bl
 have hbare:=fun m (hm:m∈startL k bl)=>startL_bare hm
 obtain ⟨am,cm,rfl⟩:=hoo.shape
 have P2:=P.mono (L:=X+ho) (R:=ho) M
 have hP:Parts w0 (X+ho) b { c with started:=c.clock,round:=mr+1,coord:=some (startC k bl) } ⟨vmem,vr0,vsets,vmr,vg,ve,vd,vrq,vop,vow,vw,pB kb,vou,van⟩ tb ps hG hE hD hR hT S2 hO :=
  Parts.mk P2.mem P2.rngs0 P2.sets P2.mr P2.guess P2.ended P2.dbts P2.reqs P2.opn P2.own P2.txn P2.waits ⟨kb,rfl,hK2⟩ P2.out P2.ansd
 have hpt:=putting_all_spec w0 (X+ho) b tb { c with started:=c.clock,round:=mr+1,coord:=some (startC k bl) } _ ps ⟨_,hG,hE,hD,hR,hT,S2,hO,hP,rfl⟩ (startL k bl) am cm (hoo.rd (X:=0) (R:=X)) (by have:=hZ.bd.out; simp only; omega) (fun m hm=>by rw [(hbare m hm).1,(hbare m hm).2]; simp)
 skip
 refine W_call M M M M (zQ M M M) hpt (.drop (by kernel_rfl) (.drop (by kernel_rfl) (.drop (by kernel_rfl) .nil))) ?_
 rintro _ _ hA
 refine ⟨trivial,?_⟩
 repeat (refine yI ?_)
 skip
 exact ⟨[],_,_,trivial,hA.trans.after,yJ.out⟩
theorem resolving_spec (hS:CliT w0 X b tb c S) (hZ:Sz n c) (hn:n+100≤100000000) (d:Dbt) (hok:newOk c.addr d.id d.parts c.accs=true) (a a2:Option Addr) (cp cp2:Nat) (hd:RdL w0 X (.slice a d.parts.length cp) d.parts) :
  Spec Tryz.prog w0 127 [pB b,.agg [.int .i64 d.id,.slice a d.parts.length cp,.slice a2 d.groups.length cp2].toArray] (X+S) (fun r h'=>After w0 X b tb (resolveF c d) h'):=by
 have hpl:=newOk_parts hok
 have hco:newO c.addr d.id d.parts c.accs=some (newC c.addr d.id d.parts c.accs):=by unfold newO; rw [if_pos hok]
 have e0:resolveF c d=startF { c with coord:=some (newC c.addr d.id d.parts c.accs),about:=d.id }:=by unfold resolveF; rw [hco]
 rw [e0]
 clear e0
 have hZ2:Sz n { c with coord:=some (newC c.addr d.id d.parts c.accs),about:=d.id }:=(hZ.coos (k:=some (newC c.addr d.id d.parts c.accs)) (by rw [← hco]; exact newO_sz _ _ _ _)).free
 have hnew:=coNew_spec w0 X c.addr d.id d.parts a cp c.accs hd (by omega)
 obtain ⟨⟨vmem,vr0,vsets,vmr,vg,ve,vd,vrq,vop,vow,vw,vco,vou,van⟩,ps,hG,hE,hD,hR,hT,hK,hO,P,rfl⟩:=hS
 refine zN Tryz.func127 M Tryz.ntmps127 Tryz.results127 M fun fr=>?_
 repeat (first|refine zF ?_|refine zB ?_|refine zE ?_|refine L_box M (c:=[_,_,_]) M M M (fun _=>?_))
 refine yB [14,20] [0,1,2,3,4,5,6,7,8,9,10,11,12,13,14,15,16,17,18,19,20] (by kernel_rfl) M (by kernel_rfl) (by kernel_rfl) ?_
 refine zaF ?_
 refine W_call M M M M (zQ M M M) hnew (Kept.all _) ?_
 rintro _ _ (⟨h,-⟩|⟨-,kb,K,rfl,hKA,rfl⟩)
 ·rw [hok] at h; cases h
 refine ⟨zka,?_⟩
 refine zaN ?_
 refine W_eff M M M M (ev_store M M M M M (c':=(_::_::_::_::_::_::_::_::_::_::_::_::_::_::_::_::_::_::_::_::_::_::_::_::_::_::_::_::_::_::_::_::_::_::_::_::_::_::[])) M) (Kept.all _) ?_
 rintro _ _ rfl
 refine ⟨zka,?_⟩
 repeat (refine yI ?_)
 refine zbO ?_
 have hP:Parts w0 X b { c with coord:=some (newC c.addr d.id d.parts c.accs),about:=d.id } ⟨vmem,vr0,vsets,vmr,vg,ve,vd,vrq,vop,vow,vw,pB kb,vou,van⟩ tb ps hG hE hD hR hT K hO :=
  Parts.mk P.mem P.rngs0 P.sets P.mr P.guess P.ended P.dbts P.reqs P.opn P.own P.txn P.waits ⟨kb,rfl,hKA⟩ P.out P.ansd
 refine zX M M (zQ M M M) (starting_spec w0 X b tb _ _ n ⟨_,ps,hG,hE,hD,hR,hT,K,hO,hP,rfl⟩ hZ2 hn M) ?_
 rintro _ _ hA
 repeat (refine zE ?_)
 exact ⟨[],_,_,trivial,hA,yJ.out⟩
theorem doubting1_spec (d:Dbt) (a a2:Option Addr) (cp cp2 bx:Nat) (V:Raw) (h1:At w0 X bx 0 [pB b]) (h2:At w0 X b 0 (clL c V)) :
  Spec Tryz.prog w0 212 [.agg [.int .i64 d.id,.slice a d.parts.length cp,.slice a2 d.groups.length cp2].toArray,pB bx] X (fun v h'=>v=.bool (decide (d.id=c.about))∧X=h'):=by
 refine zN Tryz.func212 M Tryz.ntmps212 Tryz.results212 M fun fr=>?_
 repeat (first|refine zF ?_|refine zB ?_|refine zE ?_|refine zK M M M ?_|refine L_box M (c:=[_,_,_]) M M M (fun _=>?_))
 refine yB [] [0,1,2,3,4,5,6,7] (by kernel_rfl) M (by kernel_rfl) (by kernel_rfl) ?_
 repeat (first|refine yH M M M M M ?_|refine yD M M M M (zZ M M M) ?_|refine W_load M M M M (yE M) (zG M (zS M)) ?_|refine W_atf M M (by assumption) M M M M M ?_|refine W_at M M (by assumption) M M M M M ?_)
 refine yD M M M M (pv_eql M M) ?_
 refine zaD ?_
 repeat (refine zM ?_)
 exact ⟨[_],X,_,⟨rfl,trivial⟩,⟨rfl,rfl⟩,yJ.out⟩
theorem come1_spec (d:Dbt) (a a2:Option Addr) (cp cp2 bx:Nat) (id:Int) (v1 v2:Value) (h1:At w0 X bx 0 [.int .i64 id,v1,v2]) :
  Spec Tryz.prog w0 125 [.agg [.int .i64 d.id,.slice a d.parts.length cp,.slice a2 d.groups.length cp2].toArray,pB bx] X (fun v h'=>v=.bool (decide (d.id=id))∧X=h'):=by
 refine zN Tryz.func125 M Tryz.ntmps125 Tryz.results125 M fun fr=>?_
 repeat (first|refine zF ?_|refine zB ?_|refine zE ?_|refine zK M M M ?_|refine zY M M M M M ?_|refine L_ld M M M M M ?_|refine L_atf M (by assumption) M M M M ?_|refine L_box M (c:=[_,_,_]) M M M (fun _=>?_))
 refine yG M M (pv_eql M M) ?_
 refine zaE ?_
 exact ⟨[_],X,_,⟨rfl,trivial⟩,⟨rfl,rfl⟩,yJ.out⟩
theorem status1_spec (d:Dbt) (a a2:Option Addr) (cp cp2 bx:Nat) (x:Cal) (v1:Value) (h1:At w0 X bx 0 (cellsX x v1)) :
  Spec Tryz.prog w0 159 [.agg [.int .i64 d.id,.slice a d.parts.length cp,.slice a2 d.groups.length cp2].toArray,pB bx] X (fun v h'=>v=.bool (decide (d.id=x.txn))∧X=h'):=by
 refine zN Tryz.func159 M Tryz.ntmps159 Tryz.results159 M fun fr=>?_
 repeat (first|refine zF ?_|refine zB ?_|refine zE ?_|refine zK M M M ?_|refine zY M M M M M ?_|refine L_ld M M M M M ?_|refine L_atf M (by assumption) M M M M ?_|refine L_box M (c:=[_,_,_]) M M M (fun _=>?_))
 refine yG M M (pv_eql M M) ?_
 refine zaE ?_
 exact ⟨[_],X,_,⟨rfl,trivial⟩,⟨rfl,rfl⟩,yJ.out⟩
theorem doubting_spec (hS:CliT w0 X b tb c S) (hZ:Sz n c) (hn:n+100≤100000000) :
  Spec Tryz.prog w0 123 [pB b] (X+S) (fun r h'=>r=.int .i64 (idxF (fun d=>decide (d.id=c.about)) c.doubts)∧X+S=h'):=by
 obtain ⟨V,ps,hG,hE,hD,hR,hT,hK,hO,P,rfl⟩:=hS
 have hdl:=hZ.db.1
 have hod:=P.dbts
 refine zN Tryz.func123 M Tryz.ntmps123 Tryz.results123 M fun fr=>?_
 repeat (first|refine zF ?_|refine zB ?_|refine zE ?_|refine zK M M M ?_|refine zY M M M M M ?_|refine L_ld M M M M M ?_|refine L_box M (c:=[_]) M M M (fun _=>?_)|refine L_clo M M M ?_)
 rename_i bx
 refine zX M M (zQ M M M) (indexFuncDbt_spec w0 (X+hD+(cliC b (clL c V)+pt bx (.cells [pB b].toArray 24 (0,0)))) V.dbts c.doubts 212 [pB bx] (fun d=>decide (d.id=c.about)) hod.rd (by omega) (fun Y x e hx he=>by
  obtain ⟨a1,c1,a2,c2,rfl,-,-⟩:=he
  exact doubting1_spec w0 _ b c x a1 a2 c1 c2 bx V at_box at_box)) ?_
 rintro _ _ ⟨rfl,rfl⟩
 refine zaE ?_
 exact ⟨[_],_,_,⟨rfl,trivial⟩,⟨rfl,rfl⟩,yJ.out⟩
end
instance repLI :Rep (List Int) where
 tid:=61
 size:=1
 rd:=fun w0 L x e=>∃ a c,e=[.slice a x.length c]∧RdL w0 L (.slice a x.length c) x
 len:=by rintro _ _ _ _ ⟨a,c,rfl,_⟩; rfl
 one:=by
  rintro _ _ _ _ ⟨a,c,rfl,h⟩ u hu
  simp only [List.mem_cons,List.not_mem_nil,or_false] at hu
  subst hu; rfl
 mono:=by rintro _ _ _ _ _ _ e ⟨a,c,rfl,h⟩; exact ⟨a,c,rfl,h.mono e⟩
structure Cfg where
 nodes:Int
 accs:Int
 clis:Int
 mem:List (List Int)
 rngs:List Rng
 sets:List Spn
abbrev cellsC (k:Cfg) (vm vr vs:Value):List Value:=[.int .i64 k.nodes,.int .i64 k.accs,.int .i64 k.clis,vm,vr,vs]
theorem indexFuncLI_spec (w0:World) (X:Hp) (v:Value) (xs:List (List Int)) (k0:Nat) [hf:Fun Tryz.prog k0] (caps:List Value) (p:(List Int)→Bool) (hv:RdL w0 X v xs) (hl:xs.length≤1000000000)
  (hp:∀ x e,x∈xs→Rep.rd w0 X x e→Spec Tryz.prog w0 k0 (e.getD 0 undef::caps) X (fun r h'=>r=.bool (p x)∧X=h')) :
  Spec Tryz.prog w0 134 [v,.func (.func k0) #[] caps.toArray] X (fun r h'=>r=.int .i64 (idxF p xs)∧X=h'):=by
 obtain ⟨a,c,rfl⟩:=hv.shape
 refine zN Tryz.func134 M Tryz.ntmps134 Tryz.results134 M fun fr=>?_
 refine zaS ?_
 refine hold_count xs.length (fun k g L=>∃ R:Hp,g=[(0,.slice a xs.length c),(1,.func (.func k0) #[] caps.toArray),(7,.int .i64 xs.length),(8,.int .i64 k)]∧L=X+fr+R∧∀ x∈xs.take k,p x=false) _ ⟨0,rfl,(yA _).symm,by simp⟩ zsb ?_
 rintro k g L hk ⟨R,rfl,rfl,hpre⟩
 refine zaH ?_
 refine yF M M (pv_lss M M) (fun h2=>?_) (fun h2=>?_)
 ·have hx:k<xs.length:=by omega
  obtain ⟨b2,o2,rfl,e,hre,hat⟩:=hv.at hx
  obtain ⟨al,cl,rfl,hvd⟩:=id hre
  refine zaT ?_
  refine zX M M (zQ M M (by simp<;>rfl)) (hp xs[k] _ (List.getElem_mem hx) hre) ?_
  rintro _ _ ⟨rfl,rfl⟩
  cases h3:p xs[k]
  ·refine zaJ ?_
   exact ⟨hx,_,zsb,_,rfl,yJ.out,all_take_succ hx hpre h3⟩
  ·refine zaB ?_
   exact ⟨[_],X,_,⟨rfl,trivial⟩,⟨by rw [idxF_hit hx h3 hpre]; rfl,rfl⟩,yJ.out⟩
 ·refine zaK ?_
  rw [List.take_of_length_le (by omega)] at hpre
  exact ⟨[_],X,_,⟨rfl,trivial⟩,⟨by rw [idxF_miss hpre]; rfl,rfl⟩,yJ.out⟩
theorem containsFuncLI_spec (w0:World) (X:Hp) (v:Value) (xs:List (List Int)) (k0:Nat) [hf:Fun Tryz.prog k0] (caps:List Value) (p:List Int→Bool) (hv:RdL w0 X v xs) (hl:xs.length≤1000000000)
  (hp:∀ x e,x∈xs→Rep.rd w0 X x e→Spec Tryz.prog w0 k0 (e.getD 0 undef::caps) X (fun r h'=>r=.bool (p x)∧X=h')) :
  Spec Tryz.prog w0 65 [v,.func (.func k0) #[] caps.toArray] X (fun r h'=>r=.bool (xs.any p)∧X=h'):=by
 have hi:=indexFuncLI_spec w0 X v xs k0 caps p hv hl hp
 obtain ⟨a,c,rfl⟩:=hv.shape
 refine zN Tryz.func65 M Tryz.ntmps65 Tryz.results65 M fun fr=>?_
 refine zaC ?_
 refine zX M M (zQ M M M) hi ?_
 rintro _ _ ⟨rfl,rfl⟩
 refine yG M M (pv_geq M M) ?_
 refine zaE ?_
 exact ⟨[_],X,_,⟨rfl,trivial⟩,⟨congrArg Value.bool (idxF_nonneg p xs),rfl⟩,yJ.out⟩
theorem containsFuncRng_spec (w0:World) (X:Hp) (v:Value) (xs:List Rng) (k0:Nat) [hf:Fun Tryz.prog k0] (caps:List Value) (p:Rng→Bool) (hv:RdL w0 X v xs) (hl:xs.length≤1000000000)
  (hp:∀ Y x e,x∈xs→Rep.rd w0 Y x e→Spec Tryz.prog w0 k0 (.agg e.toArray::caps) X (fun r h'=>r=.bool (p x)∧X=h')) :
  Spec Tryz.prog w0 67 [v,.func (.func k0) #[] caps.toArray] X (fun r h'=>r=.bool (xs.any p)∧X=h'):=by
 have hi:=indexFuncRng_spec w0 X v xs k0 caps p hv hl hp
 obtain ⟨a,c,rfl⟩:=hv.shape
 refine zN Tryz.func67 M Tryz.ntmps67 Tryz.results67 M fun fr=>?_
 refine zaC ?_
 refine zX M M (zQ M M M) hi ?_
 rintro _ _ ⟨rfl,rfl⟩
 refine yG M M (pv_geq M M) ?_
 refine zaE ?_
 exact ⟨[_],X,_,⟨rfl,trivial⟩,⟨by rw [idxF_nonneg]; rfl,rfl⟩,yJ.out⟩
theorem indexFuncSpn_spec (w0:World) (X:Hp) (v:Value) (xs:List Spn) (k0:Nat) [hf:Fun Tryz.prog k0] (caps:List Value) (p:Spn→Bool) (hv:RdL w0 X v xs) (hl:xs.length≤1000000000)
  (hp:∀ Y x e,x∈xs→Rep.rd w0 Y x e→Spec Tryz.prog w0 k0 (.agg e.toArray::caps) X (fun r h'=>r=.bool (p x)∧X=h')) :
  Spec Tryz.prog w0 137 [v,.func (.func k0) #[] caps.toArray] X (fun r h'=>r=.int .i64 (idxF p xs)∧X=h'):=by
 obtain ⟨a,c,rfl⟩:=hv.shape
 refine zN Tryz.func137 M Tryz.ntmps137 Tryz.results137 M fun fr=>?_
 refine zaS ?_
 refine hold_count xs.length (fun k g L=>∃ R:Hp,g=[(0,.slice a xs.length c),(1,.func (.func k0) #[] caps.toArray),(7,.int .i64 xs.length),(8,.int .i64 k)]∧L=X+fr+R∧∀ x∈xs.take k,p x=false) _ ⟨0,rfl,(yA _).symm,by simp⟩ zsb ?_
 rintro k g L hk ⟨R,rfl,rfl,hpre⟩
 refine zaH ?_
 refine yF M M (pv_lss M M) (fun h2=>?_) (fun h2=>?_)
 ·have hx:k<xs.length:=by omega
  obtain ⟨b2,o2,rfl,e,hr,hat⟩:=hv.at hx
  refine zcA ?_
  refine L_load M M (yE M) (zH M hat (beq_iff_eq.2 (Rep.len hr))) ?_
  refine zX M M (zQ M M (by simp<;>rfl)) (hp X xs[k] e (List.getElem_mem hx) hr) ?_
  rintro _ _ ⟨rfl,rfl⟩
  cases h3:p xs[k]
  ·refine zaJ ?_
   exact ⟨hx,_,zsb,_,rfl,yJ.out,all_take_succ hx hpre h3⟩
  ·refine zaB ?_
   exact ⟨[_],X,_,⟨rfl,trivial⟩,⟨by rw [idxF_hit hx h3 hpre]; rfl,rfl⟩,yJ.out⟩
 ·refine zaK ?_
  rw [List.take_of_length_le (by omega)] at hpre
  exact ⟨[_],X,_,⟨rfl,trivial⟩,⟨by rw [idxF_miss hpre]; rfl,rfl⟩,yJ.out⟩
theorem containsFuncSpn_spec (w0:World) (X:Hp) (v:Value) (xs:List Spn) (k0:Nat) [hf:Fun Tryz.prog k0] (caps:List Value) (p:Spn→Bool) (hv:RdL w0 X v xs) (hl:xs.length≤1000000000)
  (hp:∀ Y x e,x∈xs→Rep.rd w0 Y x e→Spec Tryz.prog w0 k0 (.agg e.toArray::caps) X (fun r h'=>r=.bool (p x)∧X=h')) :
  Spec Tryz.prog w0 68 [v,.func (.func k0) #[] caps.toArray] X (fun r h'=>r=.bool (xs.any p)∧X=h'):=by
 have hi:=indexFuncSpn_spec w0 X v xs k0 caps p hv hl hp
 obtain ⟨a,c,rfl⟩:=hv.shape
 refine zN Tryz.func68 M Tryz.ntmps68 Tryz.results68 M fun fr=>?_
 refine zaC ?_
 refine zX M M (zQ M M M) hi ?_
 rintro _ _ ⟨rfl,rfl⟩
 refine yG M M (pv_geq M M) ?_
 refine zaE ?_
 exact ⟨[_],X,_,⟨rfl,trivial⟩,⟨by rw [idxF_nonneg]; rfl,rfl⟩,yJ.out⟩
theorem cloneRngs_spec (w0:World) (X:Hp) (v:Value) (xs:List Rng) (hv:RdL w0 X v xs) (hl:xs.length≤1000000000000) :
  Spec Tryz.prog w0 69 [v] X (fun r h'=>∃ h,OwL w0 X xs r h∧X+h=h'):=by
 obtain ⟨es,h1,h2⟩:=id hv
 obtain ⟨a,c,rfl⟩:=hv.shape
 refine zN Tryz.func69 M Tryz.ntmps69 Tryz.results69 M fun fr=>?_
 refine zaC ?_
 refine L_bool M M (pv_slice_isnil M M) (fun h3=>?_) (fun h3=>?_)
 ·obtain rfl:xs=[]:=by
   cases xs with
   | nil=>rfl
   | cons x l =>
    obtain ⟨b,o,rfl,_⟩:=hv.at (i:=0) (by simp)
    simp at h3
  refine zaB ?_
  exact ⟨[_],X,_,⟨rfl,trivial⟩,⟨0,OwL.nil _ none,yA _⟩,yJ.out⟩
 ·repeat (first|refine zF ?_|refine zB ?_|refine zE ?_|refine zK M M M ?_|refine zP ?_|refine zI M ?_|refine L_bs (vs:=[]) (cells:=[]) M M M M M M (fun _=>?_))
  refine L_eff M M (ev_appendL (xs:=([]:List Rng)) (h:=0) M M (OwL.nil X _) (h1.frame) h2 M M M M M (by simp; omega)) ?_
  rintro v' _ ⟨h',hr',rfl⟩
  refine zaE ?_
  exact ⟨[_],X+h',_,⟨rfl,trivial⟩,⟨h',hr',rfl⟩,yJ.out⟩
theorem cloneSpns_spec (w0:World) (X:Hp) (v:Value) (xs:List Spn) (hv:RdL w0 X v xs) (hl:xs.length≤1000000000000) :
  Spec Tryz.prog w0 30 [v] X (fun r h'=>∃ h,OwL w0 X xs r h∧X+h=h'):=by
 obtain ⟨es,h1,h2⟩:=id hv
 obtain ⟨a,c,rfl⟩:=hv.shape
 refine zN Tryz.func30 M Tryz.ntmps30 Tryz.results30 M fun fr=>?_
 refine zaC ?_
 refine L_bool M M (pv_slice_isnil M M) (fun h3=>?_) (fun h3=>?_)
 ·obtain rfl:xs=[]:=by
   cases xs with
   | nil=>rfl
   | cons x l =>
    obtain ⟨b,o,rfl,_⟩:=hv.at (i:=0) (by simp)
    simp at h3
  refine zaB ?_
  exact ⟨[_],X,_,⟨rfl,trivial⟩,⟨0,OwL.nil _ none,yA _⟩,yJ.out⟩
 ·repeat (first|refine zF ?_|refine zB ?_|refine zE ?_|refine zK M M M ?_|refine zP ?_|refine zI M ?_|refine L_bs (vs:=[]) (cells:=[]) M M M M M M (fun _=>?_))
  refine L_eff M M (ev_appendL (xs:=([]:List Spn)) (h:=0) M M (OwL.nil X _) (h1.frame) h2 M M M M M (by simp; omega)) ?_
  rintro v' _ ⟨h',hr',rfl⟩
  refine zaE ?_
  exact ⟨[_],X+h',_,⟨rfl,trivial⟩,⟨h',hr',rfl⟩,yJ.out⟩
theorem zeZ {G G' : Prop} (h : G') (f : Zh G'→G:=by intro h; (repeat (first|refine zF ?_|refine zR ?_|refine zB ?_|refine zE ?_|refine zK M M M ?_|refine zP ?_|refine zI M ?_|refine L_idx M M (by omega) M M ?_|refine L_atf M (by assumption) M M M M ?_)); exact h.o) : G:=f ⟨h⟩
theorem minI_spec (w0:World) (X:Hp) (l:List Int) (a:Option Addr) (c:Nat) (hv:RdL w0 X (.slice a l.length c) l) (hne:l≠[]) (hl:l.length≤1000000000) :
  Spec Tryz.prog w0 61 [.slice a l.length c] X (fun r h'=>∃ m:Int,r=.int .i64 m∧m∈l∧(∀ x∈l,m≤x)∧X=h'):=by
 have h0:0<l.length:=List.length_pos_iff.2 hne
 obtain ⟨b0,o0,ha0,e0,he0,hat0⟩:=hv.at h0
 obtain rfl:=he0
 refine zN Tryz.func61 M Tryz.ntmps61 Tryz.results61 M fun fr=>?_
 refine zaX ?_
 refine L_no M M (pv_lss M M) (by omega) ?_
 subst ha0
 refine zeZ ?_
 refine hold_loop (fun m g L=>∃ (k:Nat) (v:Int) (R:Hp),1≤k∧k≤l.length∧m=l.length - k∧g=[(0,.slice (some ⟨b0,o0,none⟩) l.length c),(3,.int .i64 v),(4,.int .i64 k)]∧v∈l∧(∀ m∈[v],∀ x∈l.take k,m≤x)∧L=X+fr+R) _ _
  ⟨1,l[0],0,Nat.le_refl _,h0,rfl,rfl,List.getElem_mem h0,?_,by rw [yA]⟩ zsb ?_
 ·intro m hm x hx
  rw [List.mem_singleton] at hm
  have:l.take 1=[l[0]]:=by rw [List.take_succ_eq_append_getElem h0]; rfl
  rw [this,List.mem_singleton] at hx
  rw [hm,hx]; exact Int.le_refl _
 rintro m g L ⟨k,v,R,hk1,hk,rfl,rfl,hv1,hv2,rfl⟩
 refine zaP ?_
 refine yF M M (pv_lss M M) (fun n1=>?_) (fun n1=>?_)
 ·have hx:k<l.length:=by omega
  obtain ⟨b1,o1,ha1,e1,he1,hat⟩:=hv.at hx
  obtain rfl:=he1
  simp only [Option.some.injEq,Addr.mk.injEq] at ha1
  obtain ⟨rfl,rfl,-⟩:=ha1
  refine zaT ?_
  refine yG M M (pv_min M M) ?_
  refine zaI ?_
  refine ⟨l.length - (k+1),_,by omega,zsb,k+1,_,_,by omega,by omega,rfl,rfl,?_,?_,yJ.out⟩
  ·split
   ·exact List.getElem_mem hx
   ·exact hv1
  ·intro m hm x hxx
   rw [List.mem_singleton] at hm
   subst hm
   rw [List.take_succ_eq_append_getElem hx,List.mem_append,List.mem_singleton] at hxx
   rcases hxx with hxx|rfl
   ·have:=hv2 v (by simp) x hxx
    split<;>omega
   ·split<;>omega
 ·obtain rfl:k=l.length:=by omega
  refine zaK ?_
  exact ⟨[_],X,_,⟨rfl,trivial⟩,⟨v,rfl,hv1,fun x hx=>hv2 v (by simp) x (by rw [List.take_length]; exact hx),rfl⟩,yJ.out⟩
theorem maxI_spec (w0:World) (X:Hp) (l:List Int) (a:Option Addr) (c:Nat) (hv:RdL w0 X (.slice a l.length c) l) (hne:l≠[]) (hl:l.length≤1000000000) :
  Spec Tryz.prog w0 62 [.slice a l.length c] X (fun r h'=>∃ m:Int,r=.int .i64 m∧m∈l∧(∀ x∈l,x≤m)∧X=h'):=by
 have h0:0<l.length:=List.length_pos_iff.2 hne
 obtain ⟨b0,o0,ha0,e0,he0,hat0⟩:=hv.at h0
 obtain rfl:=he0
 refine zN Tryz.func62 M Tryz.ntmps62 Tryz.results62 M fun fr=>?_
 refine zaX ?_
 refine L_no M M (pv_lss M M) (by omega) ?_
 subst ha0
 refine zeZ ?_
 refine hold_loop (fun m g L=>∃ (k:Nat) (v:Int) (R:Hp),1≤k∧k≤l.length∧m=l.length - k∧g=[(0,.slice (some ⟨b0,o0,none⟩) l.length c),(3,.int .i64 v),(4,.int .i64 k)]∧v∈l∧(∀ m∈[v],∀ x∈l.take k,x≤m)∧L=X+fr+R) _ _
  ⟨1,l[0],0,Nat.le_refl _,h0,rfl,rfl,List.getElem_mem h0,?_,by rw [yA]⟩ zsb ?_
 ·intro m hm x hx
  rw [List.mem_singleton] at hm
  have:l.take 1=[l[0]]:=by rw [List.take_succ_eq_append_getElem h0]; rfl
  rw [this,List.mem_singleton] at hx
  rw [hm,hx]; exact Int.le_refl _
 rintro m g L ⟨k,v,R,hk1,hk,rfl,rfl,hv1,hv2,rfl⟩
 refine zaP ?_
 refine yF M M (pv_lss M M) (fun n1=>?_) (fun n1=>?_)
 ·have hx:k<l.length:=by omega
  obtain ⟨b1,o1,ha1,e1,he1,hat⟩:=hv.at hx
  obtain rfl:=he1
  simp only [Option.some.injEq,Addr.mk.injEq] at ha1
  obtain ⟨rfl,rfl,-⟩:=ha1
  refine zaT ?_
  refine yG M M (pv_max M M) ?_
  refine zaI ?_
  refine ⟨l.length - (k+1),_,by omega,zsb,k+1,_,_,by omega,by omega,rfl,rfl,?_,?_,yJ.out⟩
  ·split
   ·exact List.getElem_mem hx
   ·exact hv1
  ·intro m hm x hxx
   rw [List.mem_singleton] at hm
   subst hm
   rw [List.take_succ_eq_append_getElem hx,List.mem_append,List.mem_singleton] at hxx
   rcases hxx with hxx|rfl
   ·have:=hv2 v (by simp) x hxx
    split<;>omega
   ·split<;>omega
 ·obtain rfl:k=l.length:=by omega
  refine zaK ?_
  exact ⟨[_],X,_,⟨rfl,trivial⟩,⟨v,rfl,hv1,fun x hx=>hv2 v (by simp) x (by rw [List.take_length]; exact hx),rfl⟩,yJ.out⟩
def badL (n:Int) (l:List Int):Bool:=decide (l=[]∨∃ x∈l,x<1∨n<x)
theorem right1_spec (w0:World) (X:Hp) (k:Cfg) (vm vr vs:Value) (l:List Int) (a:Option Addr) (c bx:Nat) (hv:RdL w0 X (.slice a l.length c) l) (hl:l.length≤1000000000) (h1:At w0 X bx 0 (cellsC k vm vr vs)) :
  Spec Tryz.prog w0 60 [.slice a l.length c,pB bx] X (fun v h'=>v=.bool (badL k.nodes l)∧X=h'):=by
 have hmin:=fun h=>minI_spec w0 X l a c hv h hl
 have hmax:=fun h=>maxI_spec w0 X l a c hv h hl
 refine zN Tryz.func60 M Tryz.ntmps60 Tryz.results60 M fun fr=>?_
 refine zaC ?_
 refine yB [5,10] [0,1,2,3,4,5,6,7,8,9,11,12,10,13,14,15] (by kernel_rfl) M (by kernel_rfl) (by kernel_rfl) ?_
 repeat (first|refine yH M M M M M ?_|refine yD M M M M (pv_len M) ?_)
 refine W_dec M M M M (pv_eql M M) (fun n1=>?_) (fun n1=>?_)
 ·refine zbV ?_
  repeat (refine zM ?_)
  exact ⟨[_],X,_,⟨rfl,trivial⟩,⟨congrArg Value.bool (decide_eq_true (.inl (List.eq_nil_of_length_eq_zero (by omega)))).symm,rfl⟩,yJ.out⟩
 have hne:l≠[]:=by rintro rfl; exact n1 M
 repeat (refine yH M M M M M ?_)
 refine W_call M M M M (zQ M M M) (hmin hne) (Kept.all _) ?_
 rintro _ _ ⟨m,rfl,q1,q2,rfl⟩
 refine ⟨zka,?_⟩
 skip
 refine W_dec M M M M (pv_lss M M) (fun n2=>?_) (fun n2=>?_)
 ·refine zbV ?_
  repeat (refine zM ?_)
  exact ⟨[_],X,_,⟨rfl,trivial⟩,⟨congrArg Value.bool (decide_eq_true (.inr ⟨m,q1,.inl n2⟩)).symm,rfl⟩,yJ.out⟩
 repeat (first|refine yH M M M M M ?_|refine yD M M M M (zZ M M M) ?_|refine W_atf M M (by assumption) M M M M M ?_)
 refine W_call M M M M (zQ M M M) (hmax hne) (Kept.all _) ?_
 rintro _ _ ⟨u,rfl,q3,q4,rfl⟩
 refine ⟨zka,?_⟩
 skip
 refine W_dec M M M M (pv_gtr M M) (fun n3=>?_) (fun n3=>?_)
 ·refine zaD ?_
  repeat (refine zM ?_)
  exact ⟨[_],X,_,⟨rfl,trivial⟩,⟨congrArg Value.bool (decide_eq_true (.inr ⟨u,q3,.inr n3⟩)).symm,rfl⟩,yJ.out⟩
 ·refine zaD ?_
  repeat (refine zM ?_)
  refine ⟨[_],X,_,⟨rfl,trivial⟩,⟨congrArg Value.bool (decide_eq_false ?_).symm,rfl⟩,yJ.out⟩
  rintro (h|⟨x,hx,h⟩)
  ·exact hne h
  ·have:=q2 x hx
   have:=q4 x hx
   omega
theorem right3_spec (w0:World) (X:Hp) (k:Cfg) (am:Option Addr) (cm:Nat) (vr vs:Value) (r:Rng) (bx:Nat) (h1:At w0 X bx 0 (cellsC k (.slice am k.mem.length cm) vr vs)) :
  Spec Tryz.prog w0 64 [.agg [.int .i64 r.lo,.int .i64 r.hi,.int .i64 r.group,.int .i64 r.epoch].toArray,pB bx] X (fun v h'=>v=.bool (decide ((k.mem.length:Int)≤r.group))∧X=h'):=by
 refine zN Tryz.func64 M Tryz.ntmps64 Tryz.results64 M fun fr=>?_
 repeat (first|refine zF ?_|refine zB ?_|refine zE ?_|refine zK M M M ?_|refine zY M M M M M ?_|refine L_ld M M M M M ?_|refine L_len M M M ?_|refine L_atf M (by assumption) M M M M ?_|refine L_box M (c:=[_,_,_,_]) M M M (fun _=>?_))
 refine yG M M (pv_geq M M) ?_
 refine zaE ?_
 exact ⟨[_],X,_,⟨rfl,trivial⟩,⟨rfl,rfl⟩,yJ.out⟩
def oddS (s:Spn):Bool:=decide (s.lo<0∨s.hi≤s.lo∨64<s.hi)
theorem right2_spec (w0:World) (X:Hp) (s:Spn) :
  Spec Tryz.prog w0 63 [.agg [.int .i64 s.lo,.int .i64 s.hi].toArray] X (fun v h'=>v=.bool (oddS s)∧X=h'):=by
 unfold oddS
 refine zN Tryz.func63 M Tryz.ntmps63 Tryz.results63 M fun fr=>?_
 repeat' (first|refine zF ?_|refine zB ?_|refine zE ?_|refine zK M M M ?_|refine zY M M M M M ?_|refine L_ld M M M M M ?_|refine L_skip M M ?_|refine zM ?_|refine L_box M (c:=[_,_]) M M M (fun _=>?_)|refine yF M M (pv_lss M M) (fun _=>?_) (fun _=>?_)|refine yF M M (pv_gtr M M) (fun _=>?_) (fun _=>?_)|refine yF M M (pv_geq M M) (fun _=>?_) (fun _=>?_)|exact ⟨[_],X,_,⟨rfl,trivial⟩,⟨by first|exact congrArg Value.bool (decide_eq_true (by omega)).symm|exact congrArg Value.bool (decide_eq_false (by omega)).symm,rfl⟩,yJ.out⟩|done)
def firstM (k:Cfg):Mpp:=⟨k.rngs,k.rngs.foldl (fun e r=>max e r.epoch) 0,0,0,0,0,0⟩
theorem firstM_take (l:List Rng) {i:Nat} (hi:i<l.length):(l.take (i+1)).foldl (fun e (r:Rng)=>max e r.epoch) 0=max ((l.take i).foldl (fun e (r:Rng)=>max e r.epoch) 0) l[i].epoch:=by
 rw [List.take_succ_eq_append_getElem hi,List.foldl_append]; rfl
theorem firstMap_spec (w0:World) (X:Hp) (k:Cfg) (vm vs:Value) (ar:Option Addr) (cr:Nat) (h2:vm.oneCell'=true) (h3:vs.oneCell'=true) (hv:RdL w0 X (.slice ar k.rngs.length cr) k.rngs) (hl:k.rngs.length≤1000000) :
  Spec Tryz.prog w0 29 [.agg (cellsC k vm (.slice ar k.rngs.length cr) vs).toArray] X (fun r h'=>∃ a c G,r=.agg [.slice a k.rngs.length c,.int .i64 (firstM k).epoch,.int .i64 0,.int .i64 0,.int .i64 0,.int .i64 0,.int .i64 0].toArray∧RdL w0 G (.slice a k.rngs.length c) k.rngs∧X+G=h'):=by
 refine zN Tryz.func29 M Tryz.ntmps29 Tryz.results29 M fun fr=>?_
 repeat (first|refine zF ?_|refine zB ?_|refine zE ?_|refine zY M M M M M ?_|refine L_ld M M M M M ?_|refine L_box M (c:=[_,_,_,_,_,_]) M M M (fun _=>?_)|refine L_alloc (c:=[_,_,_,_,_,_,_]) M M M (fun _=>?_))
 rename_i b1 b2
 refine zX M M (zQ M M M) (cloneRngs_spec w0 X _ k.rngs hv (by omega)) ?_
 rintro vc _ ⟨hc,hcl,rfl⟩
 obtain ⟨ac,cc,rfl⟩:=hcl.shape
 have hcl0:OwL w0 0 k.rngs (.slice ac k.rngs.length cc) hc:=by
  obtain ⟨es,q1,q2⟩:=hcl
  exact ⟨es,q1,All2.mono (S:=Rep.rd w0 0) (fun x e he=>he) q2⟩
 repeat (first|refine zF ?_|refine zR ?_|refine zB ?_|refine zE ?_|refine zK M M M ?_|refine zY M M M M M ?_|refine L_ld M M M M M ?_|refine L_len M M M ?_|refine L_build (vs:=[_]) (cells:=[_,_,_,_,_,_,_]) M M M M ?_|refine L_stA M (vs:=[_,_,_,_,_,_,_]) M M M M (c':=[_,_,_,_,_,_,_]) M M ?_|refine L_alloc (c:=[_,_,_,_,_,_,_]) M M M (fun _=>?_))
 rename_i b3
 refine hold_count k.rngs.length (fun i g L=>∃ (R:Hp),g=[(2,pB b2),(3,pB b3),(11,.slice ar k.rngs.length cr),(12,.int .i64 k.rngs.length),(13,.int .i64 i)] ∧
  L=pt b3 (.cells [.slice ac k.rngs.length cc,.int .i64 ((k.rngs.take i).foldl (fun e (r:Rng)=>max e r.epoch) 0),.int .i64 0,.int .i64 0,.int .i64 0,.int .i64 0,.int .i64 0].toArray 88 (0,0))+(pt b2 (.cells [.slice none 0 0,.int .i64 0,.int .i64 0,.int .i64 0,.int .i64 0,.int .i64 0,.int .i64 0].toArray 88 (0,0))+(X+hc+fr))+R) _
  (by rw [List.take_zero,List.foldl_nil]; exact ⟨_,rfl,yJ.out⟩) zsb ?_
 rintro i g L hi ⟨R,rfl,rfl⟩
 refine zaH ?_
 refine yF M M (pv_lss M M) (fun n1=>?_) (fun n1=>?_)
 ·have hx:i<k.rngs.length:=by omega
  obtain ⟨bq,oq,rfl,e,rfl,hat⟩:=hv.at hx
  have hs:=firstM_take k.rngs hx
  generalize k.rngs[i]=r at *
  repeat (first|refine zF ?_|refine zR ?_|refine zB ?_|refine zE ?_|refine zY M M M M M ?_|refine L_ld M M M M M ?_|refine zP ?_|refine zJ M ?_|refine L_idx M M (by omega) M M ?_|refine L_atA M (by assumption) M M M M ?_|refine L_stA M (vs:=[_,_,_,_]) M M M M (c':=[_,_,_,_]) M M ?_|refine L_alloc (c:=[_,_,_,_]) M M M (fun _=>?_))
  refine yG M M (pv_max M M) ?_
  rw [show (if (k.rngs.take i).foldl (fun e (r:Rng)=>max e r.epoch) 0<r.epoch then r.epoch else (k.rngs.take i).foldl (fun e (r:Rng)=>max e r.epoch) 0)=(k.rngs.take (i+1)).foldl (fun e (r:Rng)=>max e r.epoch) 0 by rw [hs]; split<;>omega]
  repeat (first|refine zB ?_|refine zE ?_|refine zK M M M ?_|refine zY M M M M M ?_|refine L_add M M (by omega) (by omega) M M ?_|refine L_st M M M (c':=[_,_,_,_,_,_,_]) M M M M ?_)
  exact ⟨hx,_,zsb,_,rfl,yJ.out⟩
 ·obtain rfl:i=k.rngs.length:=by omega
  rw [List.take_length]
  repeat (first|refine zF ?_|refine yC ?_|refine zB ?_|refine zE ?_|refine zM ?_|refine zI M ?_|refine L_ldA M (vs:=[_,_,_,_,_,_,_]) M M M M M ?_|refine L_stA M (vs:=[_,_,_,_,_,_,_]) M M M M (c':=[_,_,_,_,_,_,_]) M M ?_)
  exact ⟨[_],_,_,⟨⟨_,rfl,zL (vs:=[_,_,_,_,_,_,_]) M M M⟩,trivial⟩,⟨ac,cc,hc,rfl,hcl0.rdh,rfl⟩,yJ.out⟩
structure RightP (k:Cfg) (id:Int):Prop where
 id:1≤id∧id≤4
 nodes:1≤k.nodes∧k.nodes≤7
 mem:1≤k.mem.length∧k.mem.length≤5∧∀ l∈k.mem,badL k.nodes l=false
 map:checkR (firstM k)=0
 accs:k.accs≤k.nodes
theorem firstM_i64 {k:Cfg} (h:∀ r∈k.rngs,I64 r.epoch):I64 (firstM k).epoch:=by
 have:∀ (l:List Rng) (e:Int),(∀ r∈l,I64 r.epoch)→I64 e→I64 (l.foldl (fun e (r:Rng)=>max e r.epoch) e):=by
  intro l
  induction l with
  | nil=>exact fun e _ h=>h
  | cons r l ih =>
   intro e h he
   refine ih _ (fun x hx=>h x (by simp [hx])) ?_
   have:=h r (by simp)
   show I64 (max e r.epoch)
   unfold I64 at this he ⊢
   omega
 exact this _ _ h i64_0
structure RightQ (k:Cfg) (id:Int):Prop where
 nums:1≤id∧id≤k.clis∧k.clis≤4∧1≤k.nodes∧k.nodes≤7∧1≤k.accs∧k.accs≤k.nodes∧k.accs % 2=1∧1≤k.mem.length∧k.mem.length≤5
 mem:k.mem.any (badL k.nodes)=false
 map:checkR (firstM k)=0
 grp:k.rngs.any (fun r=>decide ((k.mem.length:Int)≤r.group))=false
 sets:k.sets.any oddS=false
theorem right_spec (w0:World) (X:Hp) (k:Cfg) (am ar asx:Option Addr) (cm cr cs:Nat) (id:Int) (h1:RdL w0 X (.slice am k.mem.length cm) k.mem) (h2:RdL w0 X (.slice ar k.rngs.length cr) k.rngs) (h3:RdL w0 X (.slice asx k.sets.length cs) k.sets)
  (hl:k.mem.length≤1000000∧k.rngs.length≤1000000∧k.sets.length≤1000000) (hlm:∀ l∈k.mem,l.length≤1000000) (hep:∀ r∈k.rngs,I64 r.epoch) :
  Spec Tryz.prog w0 28 [.agg (cellsC k (.slice am k.mem.length cm) (.slice ar k.rngs.length cr) (.slice asx k.sets.length cs)).toArray,.int .i64 id] X (fun r h'=>∃ q:Bool,r=.bool q∧(q=true→RightP k id)∧(RightQ k id→q=true)∧X=h'):=by
 have hfm:=firstMap_spec w0 X k (.slice am k.mem.length cm) (.slice asx k.sets.length cs) ar cr M M h2 hl.2.1
 have hfe:=firstM_i64 hep
 refine zN Tryz.func28 M Tryz.ntmps28 Tryz.results28 M fun fr=>?_
 repeat (first|refine zF ?_|refine zB ?_|refine zE ?_|refine zK M M M ?_|refine L_box M (c:=[_,_,_,_,_,_]) M M M (fun _=>?_)|refine L_clo M M M ?_)
 rename_i b2
 have hmb:=containsFuncLI_spec w0 (X+pt b2 (.cells (cellsC k (.slice am k.mem.length cm) (.slice ar k.rngs.length cr) (.slice asx k.sets.length cs)).toArray 32 (0,0))) (.slice am k.mem.length cm) k.mem 60 [pB b2] (badL k.nodes) (h1.mono M) (by omega) (fun x e hx he=>by
  obtain ⟨a1,c1,rfl,hrd⟩:=_root_.id he
  exact right1_spec w0 _ k _ _ _ x a1 c1 b2 hrd (by have:=hlm x hx; omega) at_box)
 have hrb:=containsFuncRng_spec w0 (X+pt b2 (.cells (cellsC k (.slice am k.mem.length cm) (.slice ar k.rngs.length cr) (.slice asx k.sets.length cs)).toArray 32 (0,0))) (.slice ar k.rngs.length cr) k.rngs 64 [pB b2] (fun r=>decide ((k.mem.length:Int)≤r.group)) (h2.mono M) (by omega) (fun Y x e hx he=>by
  obtain rfl:=he
  exact right3_spec w0 _ k am cm _ _ x b2 at_box)
 have hsb:=containsFuncSpn_spec w0 X (.slice asx k.sets.length cs) k.sets 63 [] oddS h3 (by omega) (fun Y x e hx he=>by
  obtain rfl:=he
  exact right2_spec w0 X x)
 repeat' (first|refine zE ?_|refine zK M M M ?_|refine zY M M M M M ?_|refine L_ld M M M M M ?_|refine L_skip M M ?_|refine zM ?_|refine yF M M (pv_leq M M) (fun _=>?_) (fun _=>?_)|refine yF M M (pv_geq M M) (fun _=>?_) (fun _=>?_)|exact ⟨[_],X,_,⟨rfl,trivial⟩,⟨false,rfl,(fun h=>by cases h),(fun h=>by have hh:=h.nums; exfalso; omega),rfl⟩,yJ.out⟩|done)
 refine yG M M (pv_rem_nn M M (by omega) (by decide)) ?_
 repeat' (first|refine zE ?_|refine zK M M M ?_|refine zY M M M M M ?_|refine L_ld M M M M M ?_|refine L_len M M M ?_|refine L_skip M M ?_|refine zM ?_|refine yF M M (pv_leq M M) (fun _=>?_) (fun _=>?_)|refine yF M M (pv_geq M M) (fun _=>?_) (fun _=>?_)|refine yF M M (pv_eql M M) (fun _=>?_) (fun _=>?_)|exact ⟨[_],X,_,⟨rfl,trivial⟩,⟨false,rfl,(fun h=>by cases h),(fun h=>by have hh:=h.nums; exfalso; omega),rfl⟩,yJ.out⟩|done)
 refine zX M M (zQ M M M) hmb ?_
 rintro _ _ ⟨rfl,rfl⟩
 cases hm:k.mem.any (badL k.nodes)
 rotate_left
 ·refine zbJ ?_
  exact ⟨[_],X,_,⟨rfl,trivial⟩,⟨false,rfl,(fun h=>by cases h),(fun h=>by rw [h.mem] at hm; cases hm),rfl⟩,yJ.out⟩
 repeat (first|refine zK M M M ?_|refine L_ldA M (vs:=[_,_,_,_,_,_]) M M M M M ?_)
 refine zX M M (zQ M M M) hfm ?_
 rintro _ _ ⟨a4,c4,G,rfl,hrg,rfl⟩
 skip
 refine zX M M (zQ M M M) (checkRanges_spec w0 G (firstM k) a4 c4 hrg (by show k.rngs.length≤_; omega) hfe) ?_
 rintro _ _ ⟨rfl,rfl⟩
 skip
 refine yF M M (pv_eql M M) (fun hck=>?_) (fun hck=>?_)
 rotate_left
 ·refine zbJ ?_
  exact ⟨[_],X,_,⟨rfl,trivial⟩,⟨false,rfl,(fun h=>by cases h),(fun h=>absurd h.map hck),rfl⟩,yJ.out⟩
 refine zaO ?_
 refine zX M M (zQ M M M) hrb ?_
 rintro _ _ ⟨rfl,rfl⟩
 cases hr:k.rngs.any (fun r=>decide ((k.mem.length:Int)≤r.group))
 rotate_left
 ·refine zbJ ?_
  exact ⟨[_],X,_,⟨rfl,trivial⟩,⟨false,rfl,(fun h=>by cases h),(fun h=>by rw [h.grp] at hr; cases hr),rfl⟩,yJ.out⟩
 refine zaO ?_
 refine zX M M (zQ M M M) hsb ?_
 rintro _ _ ⟨rfl,rfl⟩
 have hok:RightP k id:=⟨by omega,by omega,⟨by omega,by omega,fun l hl=>by simpa using (List.any_eq_false.1 hm) l hl⟩,hck,by omega⟩
 cases hs:k.sets.any oddS
 ·refine zaE ?_
  exact ⟨[_],X,_,⟨rfl,trivial⟩,⟨true,rfl,(fun _=>hok),(fun _=>rfl),rfl⟩,yJ.out⟩
 ·refine zaE ?_
  exact ⟨[_],X,_,⟨rfl,trivial⟩,⟨false,rfl,(fun h=>by cases h),(fun h=>by rw [h.sets] at hs; cases hs),rfl⟩,yJ.out⟩
structure Lop where
 kind:Int
 x:Cal
 d:List Bt
 pk:Pkt
 m:Msg
abbrev cells28 (o:Lop) (vd vp ve vm:Value):List Value:=[.int .i64 o.kind,.int .i64 o.x.kind,.int .i64 o.x.block,.int .i64 o.x.set,.int .i64 o.x.snap,.int .i64 o.x.txn,.int .i64 o.x.src,.int .i64 o.x.dst,.int .i64 o.x.lo,.int .i64 o.x.hi,.int .i64 o.x.group,.int .i64 o.x.node,.int .i64 o.x.value,vd,.int .i64 o.pk.src,.int .i64 o.pk.dst,vp,.int .i64 o.m.kind,.int .i64 o.m.src,.int .i64 o.m.dst,.int .i64 o.m.group,.int .i64 o.m.term,.int .i64 o.m.index,.int .i64 o.m.prev,.int .i64 o.m.commit,.int .i64 o.m.round,.int .i64 o.m.txn,.int .i64 o.m.part,.int .i64 o.m.ballot,.int .i64 o.m.value,.int .i64 o.m.seq,.bool o.m.ok,ve,vm]
instance repLop :Rep Lop where
 tid:=57
 size:=34
 rd:=fun w0 L o e=>∃ da dc pa pc ea ec ma mc,e=cells28 o (.slice da o.d.length dc) (.slice pa o.pk.bytes.length pc) (.slice ea o.m.entries.length ec) (.slice ma o.m.data.length mc) ∧
  RdL w0 L (.slice da o.d.length dc) o.d∧RdL w0 L (.slice pa o.pk.bytes.length pc) o.pk.bytes∧RdL w0 L (.slice ea o.m.entries.length ec) o.m.entries∧RdL w0 L (.slice ma o.m.data.length mc) o.m.data∧o.pk.bytes.length≤pc
 len:=by rintro _ _ _ _ ⟨_,_,_,_,_,_,_,_,rfl,_⟩; rfl
 one:=by
  rintro _ _ _ _ ⟨_,_,_,_,_,_,_,_,rfl,_⟩ u hu
  simp only [List.mem_cons,List.not_mem_nil,or_false] at hu
  rcases hu with rfl|rfl|rfl|rfl|rfl|rfl|rfl|rfl|rfl|rfl|rfl|rfl|rfl|rfl|rfl|rfl|rfl|rfl|rfl|rfl|rfl|rfl|rfl|rfl|rfl|rfl|rfl|rfl|rfl|rfl|rfl|rfl|rfl|rfl<;>rfl
 mono:=by rintro _ _ _ _ _ _ e ⟨a1,a2,a3,a4,a5,a6,a7,a8,rfl,h1,h2,h3,h4,h5⟩; exact ⟨a1,a2,a3,a4,a5,a6,a7,a8,rfl,h1.mono e,h2.mono e,h3.mono e,h4.mono e,h5⟩
theorem At.sub {w0:World} {L:Hp} {b o:Nat} {e:List Value} (h:At w0 L b o e) (k n:Nat) {e':List Value} (he:(e.drop k).take n=e'):At w0 L b (o+k) e':=fun j u hj=>by
 subst he
 rw [List.getElem?_take] at hj
 split at hj
 ·rw [List.getElem?_drop] at hj
  have:=h (k+j) u hj
  rw [Nat.add_assoc]; exact this
 ·cases hj
structure SmallLop (o:Lop):Prop where
 d:o.d.length≤4096
 pk:o.pk.bytes.length≤65536
 m:bigMF o.m 100 16384=false
structure LenLop (o:Lop):Prop where
 e:o.m.entries.length≤10000000000000
theorem bigEntries2_spec (w0:World) (X:Hp) (l:List Ent) (a:Option Addr) (c i n:Nat) (hv:RdL w0 X (.slice a l.length c) l) (hl:l.length≤10000000000000) (hn:n≤1000000000) :
  Spec Tryz.prog w0 83 [.slice a l.length c,.int .i64 i,.int .i64 n] X (fun r h'=>r=.bool (bigEF l i n)∧X=h'):=by
 refine zN Tryz.func83 M Tryz.ntmps83 Tryz.results83 M fun fr=>?_
 refine zaX ?_
 refine yF M M (pv_gtr M M) (fun n1=>?_) (fun n1=>?_)
 ·have hF:bigEF l i n=true:=by unfold bigEF; rw [decide_eq_true (by omega)]; rfl
  rw [hF]
  refine zaB ?_
  exact ⟨[_],X,_,⟨rfl,trivial⟩,⟨rfl,rfl⟩,yJ.out⟩
 have hF:bigEF l i n=decide (n<sumB n l):=by unfold bigEF; rw [decide_eq_false (by omega)]; rfl
 rw [hF]
 refine zbY ?_
 refine hold_count l.length (fun k g L=>∃ R:Hp,g=[(0,.slice a l.length c),(2,.int .i64 n),(7,.int .i64 ((sumB n (l.take k):Nat):Int)),(8,.int .i64 k)]∧sumB n (l.take k)≤n∧L=X+fr+R) _ ⟨_,rfl,by simp [sumB],yJ.out⟩ zsb ?_
 rintro k g L hk ⟨R,rfl,hs,rfl⟩
 refine zaP ?_
 refine yF M M (pv_lss M M) (fun n2=>?_) (fun n2=>?_)
 ·have hx:k<l.length:=by omega
  have hst:=sumB_take (n:=n) hx
  have hle:=sumB_le n l (k+1)
  obtain ⟨b2,o2,rfl,e,hr,hat⟩:=hv.at hx
  obtain ⟨a5,c5,rfl,hr5⟩:=hr
  have hq:min l[k].data.length (n+1)≤n+1:=Nat.min_le_right _ _
  have hmn:(if ((n:Int)+1)<(l[k].data.length:Nat) then ((n:Int)+1) else (l[k].data.length:Nat))=((min l[k].data.length (n+1):Nat):Int):=by
   split
   ·rw [Nat.min_eq_right (by omega)]; rfl
   ·rw [Nat.min_eq_left (by omega)]
  repeat (first|refine zF ?_|refine zR ?_|refine zB ?_|refine zE ?_|refine zK M M M ?_|refine zY M M M M M ?_|refine L_len M M M ?_|refine zP ?_|refine zJ M ?_|refine L_add M M (by omega) (by omega) M M ?_|refine L_idx M M (by omega) M M ?_|refine L_atf M (by assumption) M M M M ?_)
  refine yG M M (pv_min_to M M hmn) ?_
  generalize min l[k].data.length (n+1)=q at hq hst
  refine zcW ?_
  rw [show ((sumB n (l.take k):Nat):Int)+(q:Int)=((sumB n (l.take (k+1)):Nat):Int) by omega]
  refine yF M M (pv_gtr M M) (fun n3=>?_) (fun n3=>?_)
  ·refine zaB ?_
   exact ⟨[_],X,_,⟨rfl,trivial⟩,⟨congrArg Value.bool (decide_eq_true (by omega)).symm,rfl⟩,yJ.out⟩
  ·refine zaJ ?_
   exact ⟨hx,_,zsb,_,rfl,by omega,yJ.out⟩
 ·rw [List.take_of_length_le (by omega)] at hs
  refine zaK ?_
  exact ⟨[_],X,_,⟨rfl,trivial⟩,⟨congrArg Value.bool (decide_eq_false (by omega)).symm,rfl⟩,yJ.out⟩
theorem bigMsg2_spec (w0:World) (X:Hp) (m:Msg) (a a2:Option Addr) (c c2 i n:Nat) (hv:RdL w0 X (.slice a m.entries.length c) m.entries) (hl:m.entries.length≤10000000000000) (hn:n≤1000000000) :
  Spec Tryz.prog w0 33 [.agg (cellsM m (.slice a m.entries.length c) (.slice a2 m.data.length c2)).toArray,.int .i64 i,.int .i64 n] X (fun r h'=>r=.bool (bigMF m i n)∧X=h'):=by
 refine zN Tryz.func33 M Tryz.ntmps33 Tryz.results33 M fun fr=>?_
 repeat (first|refine zF ?_|refine zB ?_|refine zE ?_|refine zK M M M ?_|refine zY M M M M M ?_|refine L_ld M M M M M ?_|refine L_box M (c:=[_,_,_,_,_,_,_,_,_,_,_,_,_,_,_,_,_]) M M M (fun _=>?_))
 refine zX M M (zQ M M M) (bigEntries2_spec w0 X m.entries a c i n hv hl hn) ?_
 rintro _ _ ⟨rfl,rfl⟩
 unfold bigMF
 cases bigEF m.entries i n
 ·refine zbW ?_
  refine yG M M (pv_gtr M M) ?_
  refine zaE ?_
  exact ⟨[_],X,_,⟨rfl,trivial⟩,⟨congrArg Value.bool (by rw [Bool.false_or]; exact decide_eq_decide.2 (by omega)),rfl⟩,yJ.out⟩
 ·refine zbJ ?_
  exact ⟨[_],X,_,⟨rfl,trivial⟩,⟨rfl,rfl⟩,yJ.out⟩
theorem big28_spec (w0:World) (X:Hp) (l:List Lop) (a:Option Addr) (c:Nat) (hv:RdL w0 X (.slice a l.length c) l) (hl:l.length≤1000000000000) (hlen:∀ o∈l,LenLop o) :
  Spec Tryz.prog w0 14 [.slice a l.length c] X (fun r h'=>∃ q:Bool,r=.bool q∧(q=false→l.length≤200∧∀ o∈l,SmallLop o)∧X=h'):=by
 refine zN Tryz.func14 M Tryz.ntmps14 Tryz.results14 M fun fr=>?_
 refine zaX ?_
 refine yF M M (pv_gtr M M) (fun n0=>?_) (fun n0=>?_)
 ·refine zaB ?_
  exact ⟨[_],X,_,⟨rfl,trivial⟩,⟨true,rfl,(fun h=>by cases h),rfl⟩,yJ.out⟩
 refine zbY ?_
 refine hold_count l.length (fun k g L=>∃ R:Hp,g=[(0,.slice a l.length c),(3,.int .i64 k)]∧(∀ o∈l.take k,SmallLop o)∧L=X+fr+R) _ ⟨0,rfl,by simp,(yA _).symm⟩ zsb ?_
 rintro k g L hk ⟨R,rfl,hp,rfl⟩
 refine zaP ?_
 refine yF M M (pv_lss M M) (fun n1=>?_) (fun n1=>?_)
 ·have hx:k<l.length:=by omega
  obtain ⟨b3,o3,rfl,e,he,hat⟩:=hv.at hx
  have hts:=List.take_succ_eq_append_getElem hx
  have hmem:=List.getElem_mem hx
  generalize l[k]=o at *
  obtain ⟨da,dc,pa,pc,ea,ec,ma,mc,rfl,r1,r2,r3,r4,r5⟩:=id he
  have hat1:=hat.sub 1 13 rfl
  have hat2:=hat.sub 14 3 rfl
  have hat3:=hat.sub 17 17 rfl
  simp only [cells28,List.drop_succ_cons,List.drop_zero,List.take_succ_cons,List.take_zero] at hat1 hat2 hat3
  repeat (first|refine zF ?_|refine zR ?_|refine zB ?_|refine zE ?_|refine zK M M M ?_|refine zY M M M M M ?_|refine L_len M M M ?_|refine zP ?_|refine zJ M ?_|refine L_idx M M (by omega) M M ?_|refine L_atf M (by assumption) M M M M ?_)
  refine yF M M (pv_gtr M M) (fun n2=>?_) (fun n2=>?_)
  ·refine zbS ?_
   exact ⟨[_],X,_,⟨rfl,trivial⟩,⟨true,rfl,(fun h=>by cases h),rfl⟩,yJ.out⟩
  repeat (first|refine zK M M M ?_|refine zY M M M M M ?_|refine L_len M M M ?_|refine L_idx M M (by omega) M M ?_|refine L_atf M (by assumption) M M M M ?_)
  refine yF M M (pv_gtr M M) (fun n3=>?_) (fun n3=>?_)
  ·refine zbS ?_
   exact ⟨[_],X,_,⟨rfl,trivial⟩,⟨true,rfl,(fun h=>by cases h),rfl⟩,yJ.out⟩
  repeat (first|refine zK M M M ?_|refine zY M M M M M ?_|refine L_idx M M (by omega) M M ?_|refine L_atA M (by assumption) M M M M ?_)
  refine zX M M (zQ M M M) (bigMsg2_spec w0 X o.m ea ma ec mc 100 16384 r3 (hlen _ hmem).e (by decide)) ?_
  rintro _ _ ⟨rfl,rfl⟩
  cases hb:bigMF o.m 100 16384
  ·refine zaJ ?_
   refine ⟨hx,_,zsb,_,rfl,?_,yJ.out⟩
   rw [hts]
   intro q hq
   rw [List.mem_append,List.mem_singleton] at hq
   rcases hq with hq|rfl
   ·exact hp q hq
   ·exact ⟨by omega,by omega,hb⟩
  ·refine zaB ?_
   exact ⟨[_],X,_,⟨rfl,trivial⟩,⟨true,rfl,(fun h=>by cases h),rfl⟩,yJ.out⟩
 ·rw [List.take_of_length_le (by omega)] at hp
  refine zaK ?_
  exact ⟨[_],X,_,⟨rfl,trivial⟩,⟨false,rfl,fun _=>⟨by omega,hp⟩,rfl⟩,yJ.out⟩
theorem zcU {G G' : Prop} (h : G') (f : Zh G'→G:=by intro h; (repeat (first|refine zF ?_|refine zB ?_|refine zK M M M ?_|refine zY M M M M M ?_|refine L_ld M M M M M ?_|refine L_len M M M ?_)); exact h.o) : G:=f ⟨h⟩
theorem wide28_spec (w0:World) (X:Hp) (k:Cfg) (am ar asx:Option Addr) (cm cr cs:Nat) (h1:RdL w0 X (.slice am k.mem.length cm) k.mem) (hl:k.mem.length≤10000000000000) :
  Spec Tryz.prog w0 15 [.agg (cellsC k (.slice am k.mem.length cm) (.slice ar k.rngs.length cr) (.slice asx k.sets.length cs)).toArray] X
   (fun r h'=>∃ q:Bool,r=.bool q∧(q=false→k.mem.length≤20∧k.rngs.length≤100∧k.sets.length≤100∧∀ l∈k.mem,l.length≤100)∧X=h'):=by
 refine zN Tryz.func15 M Tryz.ntmps15 Tryz.results15 M fun fr=>?_
 repeat (first|refine zF ?_|refine zB ?_|refine zE ?_|refine zK M M M ?_|refine zY M M M M M ?_|refine L_ld M M M M M ?_|refine L_len M M M ?_|refine L_box M (c:=[_,_,_,_,_,_]) M M M (fun _=>?_))
 rename_i b1
 repeat' (first|refine zF ?_|refine zR ?_|refine zB ?_|refine zE ?_|refine zK M M M ?_|refine zY M M M M M ?_|refine L_ld M M M M M ?_|refine L_len M M M ?_|refine L_skip M M ?_|refine zP ?_|refine zM ?_|refine zJ M ?_|refine zI M ?_|refine yF M M (pv_gtr M M) (fun _=>?_) (fun _=>?_)|exact ⟨[_],X,_,⟨rfl,trivial⟩,⟨true,rfl,(fun h=>by cases h),rfl⟩,yJ.out⟩|done)
 refine hold_count k.mem.length (fun i g L=>∃ R:Hp,g=[(1,pB b1),(3,.int .i64 i)]∧(∀ l∈k.mem.take i,l.length≤100)∧L=pt b1 (.cells (cellsC k (.slice am k.mem.length cm) (.slice ar k.rngs.length cr) (.slice asx k.sets.length cs)).toArray 32 (0,0))+(X+fr)+R) _ ⟨_,rfl,by simp,yJ.out⟩ zsb ?_
 rintro i g L hi ⟨R,rfl,hp,rfl⟩
 refine zcU ?_
 refine yF M M (pv_lss M M) (fun n1=>?_) (fun n1=>?_)
 ·have hx:i<k.mem.length:=by omega
  obtain ⟨b3,o3,rfl,e,he,hat⟩:=h1.at hx
  have hts:=List.take_succ_eq_append_getElem hx
  generalize k.mem[i]=l at *
  obtain ⟨a4,c4,rfl,hrd⟩:=id he
  repeat (first|refine zF ?_|refine zR ?_|refine zB ?_|refine zE ?_|refine zK M M M ?_|refine zY M M M M M ?_|refine L_ld M M M M M ?_|refine L_len M M M ?_|refine zP ?_|refine zJ M ?_|refine L_idx M M (by omega) M M ?_|refine L_at M (by assumption) M M M M ?_)
  refine yF M M (pv_gtr M M) (fun n2=>?_) (fun n2=>?_)
  ·refine zaB ?_
   exact ⟨[_],X,_,⟨rfl,trivial⟩,⟨true,rfl,(fun h=>by cases h),rfl⟩,yJ.out⟩
  ·refine zaJ ?_
   refine ⟨hx,_,zsb,_,rfl,?_,yJ.out⟩
   rw [hts]
   intro q hq
   rw [List.mem_append,List.mem_singleton] at hq
   rcases hq with hq|rfl
   ·exact hp q hq
   ·omega
 ·rw [List.take_of_length_le (by omega)] at hp
  refine zaK ?_
  exact ⟨[_],X,_,⟨rfl,trivial⟩,⟨false,rfl,fun _=>⟨by omega,by omega,by omega,hp⟩,rfl⟩,yJ.out⟩
section
variable {P:Program} {g:Env}
theorem pv_eql_nilp {t e ty:TypeId} [hu:Und P t (.pointer e)] {x y:Operand} {q:Option Addr} (hx:ev g x=some (.pointer q)) (hy:ev g y=some (.pointer none)):PV P g (.binOp .eql t x y ty) (.bool q.isNone):=by
 intro o a w n ho ha; unfold execOp
 have e:(Op.equal t (.pointer q) (.pointer none)).run P w=.ok q.isNone w:=by
  show (Op.equalIn (9999+1) t _ _).run P w=_
  unfold Op.equalIn
  cases q<;>simp [run_underlying hu.out]
 have hg:(eqGuard .eql t x y (.pointer q) (.pointer none)).run P w=.ok () w:=by unfold eqGuard; simp
 have hb:(binOp .eql t (.pointer q) (.pointer none)).run P w=.ok (.bool q.isNone) w:=by simp only [binOp]; simp [e]
 simp only [ho,ha.ev hx,ha.ev hy,Sem.run_bind,hg,Result.andThen_ok,hb,Sem.run_pure]
theorem pv_neq_nilp {t e ty:TypeId} [hu:Und P t (.pointer e)] {x y:Operand} {q:Option Addr} (hx:ev g x=some (.pointer q)) (hy:ev g y=some (.pointer none)):PV P g (.binOp .neq t x y ty) (.bool q.isSome):=by
 intro o a w n ho ha; unfold execOp
 have e:(Op.equal t (.pointer q) (.pointer none)).run P w=.ok q.isNone w:=by
  show (Op.equalIn (9999+1) t _ _).run P w=_
  unfold Op.equalIn
  cases q<;>simp [run_underlying hu.out]
 have hg:(eqGuard .neq t x y (.pointer q) (.pointer none)).run P w=.ok () w:=by unfold eqGuard; simp
 have hb:(binOp .neq t (.pointer q) (.pointer none)).run P w=.ok (.bool q.isSome) w:=by simp only [binOp]; cases q<;>simp [e]
 simp only [ho,ha.ev hx,ha.ev hy,Sem.run_bind,hg,Result.andThen_ok,hb,Sem.run_pure]
end
theorem zdR {G G' : Prop} (h : G') (f : Zh G'→G:=by intro h; (repeat (first|refine zF ?_|refine zB ?_|refine zK M M M ?_|refine zY M M M M M ?_|refine L_ld M M M M M ?_|refine L_clo M M M ?_)); exact h.o) : G:=f ⟨h⟩
theorem zdS {G G' : Prop} (h : G') (f : Zh G'→G:=by intro h; (repeat (first|refine zB ?_|refine zE ?_|refine zK M M M ?_|refine zY M M M M M ?_|refine L_ld M M M M M ?_|refine zI M ?_|refine L_idx M M (by omega) M M ?_|refine L_atA M (by assumption) M M M M ?_)); exact h.o) : G:=f ⟨h⟩
section
variable (w0:World) (X:Hp) (b tb:Nat) (c:Cl) (S:Hp) (n:Nat)
theorem nexting_resolve {c:Cl} {d:Dbt} {l:List Dbt} (v:Int) (hk:c.kind≠9) (hd:c.doubts=d::l):nextF c v=resolveF c d:=by
 unfold nextF; rw [if_neg hk,hd]
theorem nexting_none {c:Cl} (v:Int) (hk:c.kind≠9) (hd:c.doubts=[]):nextF c v=codeF c 0:=by
 unfold nextF; rw [if_neg hk,hd]
theorem coming_spec (hS:CliT w0 X b tb c S) (hZ:Sz n c) (hn:n+200≤100000000) (hF:Fine c) (v:Int) (hv:I64 v) (hph:c.own=true∨(c.own=false∧∃ d∈c.doubts,d.id=c.about)) :
  Spec Tryz.prog w0 58 [pB b,.int .i64 v] (X+S) (fun r h'=>After w0 X b tb (comeF c v) h'):=by
 have hdrop:=drop_spec w0 X b tb c S n hS hZ.bd (by omega)
 have hZ1:Sz n { dropF c with coord:=none }:=hZ.clear
 have hF1:Fine { dropF c with coord:=none }:=hF.clear
 refine zN Tryz.func58 M Tryz.ntmps58 Tryz.results58 M fun fr=>?_
 refine zaW ?_
 refine zX M M (zQ M M M) hdrop ?_
 clear hdrop hS
 rintro _ _ ⟨S1,hS1,rfl⟩
 obtain ⟨⟨vmem,vr0,vsets,vmr,vg,ve,vd,vrq,vop,vow,vw,vco,vou,van⟩,ps,hG,hE,hD,hR,hT,hK,hO,P,rfl⟩:=hS1
 have hP:Parts w0 X b { dropF c with coord:=none } ⟨vmem,vr0,vsets,vmr,vg,ve,vd,vrq,vop,vow,vw,.pointer none,vou,van⟩ tb ps hG hE hD hR hT 0 hO :=
  Parts.mk P.mem P.rngs0 P.sets P.mr P.guess P.ended P.dbts P.reqs P.opn P.own P.txn P.waits ⟨rfl,rfl⟩ P.out P.ansd
 have hS2:CliT w0 X b tb { dropF c with coord:=none } _:=⟨_,ps,hG,hE,hD,hR,hT,0,hO,hP,rfl⟩
 have hvo:vow=ptrIf c.own tb:=P.own
 cases how:c.own
 rotate_left
 ·have e0:comeF c v=closeF (tidyF { dropF c with coord:=none } c.cur.id (groupsF c.cur) v) (cameF v):=by unfold comeF; rw [if_pos how]; rfl
  rw [e0]
  clear e0
  rw [how] at hvo
  simp only [ptrIf,cond_true] at hvo
  subst hvo
  have hT2:TxnAt w0 X tb c.cur hT:=by
   rcases P.txn with h|h
   ·exact h
   ·have:=h.2.1; rw [show (dropF c).own=c.own from rfl,how] at this; cases this
  have hca:=hZ.cur.asked
  have hcp:=hZ.cur.parts
  have hgs:=groups_spec w0 X tb c.cur hT hT2 (by omega)
  obtain ⟨vr,va,vw',ap,cp,hr,ha,hw,rfl,k1,k2,k3,k4⟩:=id hT2
  refine zbO ?_
  refine yG M M (pv_neq_nilp M M) ?_
  repeat (first|refine zF ?_|refine zE ?_|refine zJ M ?_)
  refine yB [6,8] [0,1,2,3,4,5,7,6,8] (by kernel_rfl) M (by kernel_rfl) (by kernel_rfl) ?_
  refine zaF ?_
  have hgl:=groupsF_five hF
  refine W_call M M M M (zQ M M M) hgs (Kept.all _) ?_
  rintro _ _ ⟨k5,o5,rfl⟩
  obtain ⟨a5,c5,rfl⟩:=o5.shape
  refine ⟨zka,?_⟩
  skip
  have htd:=tidying_spec w0 (X+k5) b tb { dropF c with coord:=none } _ n (hS2.mono M) hZ1.bd c.cur.id v (groupsF c.cur) a5 c5 (o5.rd (X:=0) (R:=X)) (by omega) hF1.groups hZ.cur.nums.1 hv
  refine W_call M M M M (zQ M M M) htd (.drop (by kernel_rfl) .nil) ?_
  rintro _ _ ⟨S2,h2,rfl⟩
  refine ⟨trivial,?_⟩
  have hkp:=adds_keep (tidyF_adds { dropF c with coord:=none } c.cur.id (groupsF c.cur) v hF1.groups)
  generalize tidyF { dropF c with coord:=none } c.cur.id (groupsF c.cur) v=c2 at *
  have how2:c2.own=true:=by rw [hkp.2.2.2.1]; exact how
  repeat (refine yI ?_)
  refine zaW ?_
  refine zX M M (zQ M M M) (came_spec w0 v) ?_
  rintro _ _ ⟨rfl,rfl⟩
  skip
  refine zX M M (zQ M M M) (closing_spec w0 (X+k5) b tb c2 S2 h2 (cameF v) (fun _=>how2)) ?_
  rintro _ _ hA
  refine zbI ?_
  exact ⟨[],_,_,trivial,hA.after.trans,yJ.out⟩
 ·have e0:comeF c v=nextF (solvedF (clearF c) (doubtF c) v) v:=by unfold comeF; rw [if_neg (by rw [how]; simp)]
  rw [e0]
  clear e0
  rw [how] at hvo
  simp only [ptrIf,cond_false] at hvo
  subst hvo
  obtain ⟨d0,hd0,hda⟩:∃ d∈c.doubts,d.id=c.about:=by
   rcases hph with h|h
   ·rw [how] at h; cases h
   ·exact h.2
  rcases idxF_cases (fun d:Dbt=>decide (d.id=c.about)) c.doubts with ⟨-,hi2⟩|⟨i,hi,hi1,hi2,hi3⟩
  ·have:=hi2 d0 hd0; simp [hda] at this
  have hdf:doubtF c=c.doubts[i]:=by unfold doubtF; rw [find_hit hi hi2 hi3]; rfl
  have hdm:=List.getElem_mem hi
  have hdb:Spec Tryz.prog w0 123 [pB b] (X+_) (fun r h'=>r=.int .i64 (idxF (fun d=>decide (d.id=c.about)) c.doubts)∧X+_=h'):=doubting_spec w0 X b tb { dropF c with coord:=none } _ n hS2 hZ1 (by omega)
  rw [hi1] at hdb
  have hOd:OwL w0 X c.doubts vd hD:=P.dbts
  obtain ⟨ad,cd,rfl⟩:=hOd.shape
  obtain ⟨bq,oq,rfl,e,hre,hat⟩:=OwL.at hOd hi
  obtain ⟨a1,c1,a2,c2,rfl,hd1,hd2⟩:=id hre
  have hdz:c.doubts[i].groups.length≤5:=hZ.db.2 _ hdm
  have hdn:=newOk_parts (hF.doubts _ hdm).2
  have hdg:=(hF.doubts _ hdm).1
  rw [hdf]
  clear hdf hi2 hi3 hi1 hd0 hda
  generalize c.doubts[i]=d at *
  have hid:I64 d.id:=by unfold I64; omega
  have hdl:=hZ.db.1
  refine zbO ?_
  refine yG M M (pv_neq_nilp M M) ?_
  refine zbP ?_
  refine hold_drawV [5,8,9] [0,1,2,3,4,5,6,7,8,9] 8 5 [.int .i64 0,.slice none 0 0,.slice none 0 0] 195 (by kernel_rfl) M (by kernel_rfl) (by kernel_rfl) (by kernel_rfl) ?_
  repeat (first|refine V_of M M (fun _=>rfl) M M M M ?_|refine V_pure M (zZ M M M) (fun _=>zZ M M M) M M M M ?_|refine V_load M M (fun _=>rfl) (zG M (zS M)) M M M M ?_)
  refine V_call M M M M M (zQ M M M) (fun _=>zQ M M M) hdb (Kept.all _) M M M M ?_
  rintro _ _ ⟨rfl,rfl⟩
  refine ⟨zka,?_⟩
  repeat (first|refine V_pure M (pv_indexAddr M M (by omega)) (fun _=>pv_indexAddr M M (by omega)) M M M M ?_|refine V_load M M (fun _=>rfl) (zH M (by assumption) M) M M M M ?_)
  refine V_now M M M M (fun b5=>?_)
  skip
  refine W_eff M M M M (ev_storeA (vs:=[_,_,_]) M M M M (c:=[_,_,_]) (Nat.le_of_ble_eq_true M) (c':=[_,_,_]) M) (Kept.all _) ?_
  rintro _ _ rfl
  refine ⟨zka,?_⟩
  repeat (refine yI ?_)
  refine zdR ?_
  refine zX M M (zQ M M M) (deleteFuncDbt_spec w0 (X+pt b5 (.cells [.int .i64 d.id,.slice a1 d.parts.length c1,.slice a2 d.groups.length c2].toArray 195 (0,0))) c.doubts _ hD 125 [pB b5] (fun x=>decide (x.id=d.id)) (hOd.mono M) (by omega) (fun Y x e hx he=>by
   obtain ⟨e1,e2,e3,e4,rfl,-,-⟩:=he
   exact come1_spec w0 _ x e1 e3 e2 e4 b5 d.id _ _ at_box)) ?_
  rintro v6 _ ⟨h6,ho6,rfl⟩
  rw [show (c.doubts.filter fun x=>!decide (x.id=d.id))=c.doubts.filter fun x=>decide (x.id≠d.id) from congrArg (fun f=>c.doubts.filter f) (funext fun x=>by by_cases h:x.id=d.id<;>simp [h])] at ho6
  obtain ⟨a6,c6,rfl⟩:=ho6.shape
  refine zbO ?_
  have P3:=hP.mono (L:=X+pt b5 (.cells [.int .i64 d.id,.slice a1 d.parts.length c1,.slice a2 d.groups.length c2].toArray 195 (0,0))) (R:=pt b5 (.cells [.int .i64 d.id,.slice a1 d.parts.length c1,.slice a2 d.groups.length c2].toArray 195 (0,0))) M
  have hP4:Parts w0 (X+pt b5 (.cells [.int .i64 d.id,.slice a1 d.parts.length c1,.slice a2 d.groups.length c2].toArray 195 (0,0))) b { dropF c with coord:=none,doubts:=c.doubts.filter fun x=>decide (x.id≠d.id) } ⟨vmem,vr0,vsets,vmr,vg,ve,.slice a6 _ c6,vrq,vop,.pointer none,vw,.pointer none,vou,van⟩ tb ps hG hE h6 hR hT 0 hO :=
   Parts.mk P3.mem P3.rngs0 P3.sets P3.mr P3.guess P3.ended ho6 P3.reqs P3.opn P3.own P3.txn P3.waits ⟨rfl,rfl⟩ P3.out P3.ansd
  have hZ4:Sz n { dropF c with coord:=none,doubts:=c.doubts.filter fun x=>decide (x.id≠d.id) }:=hZ1.dbts ⟨Nat.le_trans (List.length_filter_le _ _) hZ.db.1,fun x hx=>hZ.db.2 x (List.mem_filter.1 hx).1⟩
  have hF4:Fine { dropF c with coord:=none,doubts:=c.doubts.filter fun x=>decide (x.id≠d.id) }:=⟨hF1.guess,hF1.reqs,hF1.rngs,hF1.parts,hF1.asked,fun x hx=>hF.doubts x (List.mem_filter.1 hx).1,(fun h=>by cases h),hF.nmem⟩
  have htd:=tidying_spec w0 _ b tb { dropF c with coord:=none,doubts:=c.doubts.filter fun x=>decide (x.id≠d.id) } _ n ⟨_,ps,hG,hE,h6,hR,hT,0,hO,hP4,rfl⟩ hZ4.bd d.id v d.groups a2 c2 (hd2.mono M) (by omega) hdg hid hv
  refine zX M M (zQ M M M) htd ?_
  rintro _ _ ⟨S5,hS5,rfl⟩
  have hZ5:Sz (n+5) (solvedF (clearF c) d v):=hZ1.solved (by omega) d hdz hid hv
  have had:Adds { dropF c with coord:=none,doubts:=c.doubts.filter fun x=>decide (x.id≠d.id) } (solvedF (clearF c) d v):=tidyF_adds _ _ _ _ hdg
  have hF5:=hF4.adds had
  have hS5':CliT w0 (X+pt b5 (.cells [.int .i64 d.id,.slice a1 d.parts.length c1,.slice a2 d.groups.length c2].toArray 195 (0,0))) b tb (solvedF (clearF c) d v) S5:=hS5
  clear hS5 htd hP4 P3 hZ4 hF4 had hP hS2 P hdb
  generalize solvedF (clearF c) d v=c4 at *
  obtain ⟨⟨um,ur0,us,umr,ug,ue,ud,urq,uop,uow,uw,uco,uou,uan⟩,qs,jG,jE,jD,jR,jT,jK,jO,P2,rfl⟩:=id hS5'
  have hOd2:OwL w0 _ c4.doubts ud jD:=P2.dbts
  obtain ⟨ad2,cd2,rfl⟩:=hOd2.shape
  refine zbX ?_
  refine yF M M (pv_eql M M) (fun h=>?_) (fun h=>?_)
  ·rw [show nextF c4 v=codeF c4 (cameF v) by unfold nextF; rw [if_pos h]]
   refine zaU ?_
   refine zX M M (zQ M M M) (came_spec w0 v) ?_
   rintro _ _ ⟨rfl,rfl⟩
   skip
   refine zX M M (zQ M M M) (coding_spec w0 _ b tb c4 _ hS5' (cameF v)) ?_
   rintro _ _ hA
   repeat (refine zE ?_)
   exact ⟨[],_,_,trivial,hA.after.trans,yJ.out⟩
  ·refine zcB ?_
   refine yF M M (pv_eql M M) (fun h2=>?_) (fun h2=>?_)
   ·rw [nexting_none v h (List.eq_nil_of_length_eq_zero (by omega))]
    refine zaU ?_
    refine zX M M (zQ M M M) (coding_spec w0 _ b tb c4 _ hS5' 0) ?_
    rintro _ _ hA
    repeat (refine zE ?_)
    exact ⟨[],_,_,trivial,hA.after.trans,yJ.out⟩
   ·have hx:0<c4.doubts.length:=by omega
    have hd:c4.doubts=c4.doubts[0]::c4.doubts.drop 1:=by rw [← List.drop_eq_getElem_cons hx,List.drop_zero]
    rw [nexting_resolve v h hd]
    obtain ⟨bq2,oq2,rfl,e,hre2,hat2⟩:=OwL.at hOd2 hx
    obtain ⟨f1,g1,f2,g2,rfl,q1,q2⟩:=id hre2
    have hn2:=(hF5.doubts _ (List.getElem_mem hx)).2
    generalize c4.doubts[0]=d2 at *
    refine zdS ?_
    refine zX M M (zQ M M M) (resolving_spec w0 _ b tb c4 _ (n+5) hS5' hZ5 (by omega) d2 hn2 f1 f2 g1 g2 q1) ?_
    rintro _ _ hA
    repeat (refine zE ?_)
    exact ⟨[],_,_,trivial,hA.trans,yJ.out⟩
end
theorem cmpI_ltz {a b:Int}:cmpI a b<0↔a<b:=by
 unfold cmpI
 by_cases h:a<b
 ·rw [if_pos h]; omega
 ·rw [if_neg h]; split<;>omega
theorem byGroup_eq {l l2:List Rng} (hp:l2.Perm l) (hs:l2.Pairwise (fun a b=>¬ cmpI b.group a.group<0)) (hn:(l.map (·.group)).Nodup):l2=byGroup l:=by
 unfold byGroup
 have h2:=List.pairwise_mergeSort (le:=fun a b:Rng=>decide (a.group≤b.group)) (fun a b c h1 h2=>by simp at h1 h2 ⊢; omega) (fun a b=>by simp; omega) l
 have h1:l2.Pairwise (fun a b=>decide (a.group≤b.group)=true):=hs.imp (fun {a b} h=>by rw [cmpI_ltz] at h; simp; omega)
 refine List.Perm.eq_of_pairwise (le:=fun a b:Rng=>decide (a.group≤b.group)=true) ?_ h1 h2 (hp.trans (List.mergeSort_perm _ _).symm)
 intro a b ha hb hab hba
 have ha':a∈l:=hp.mem_iff.1 ha
 have hb':b∈l:=List.mem_mergeSort.1 hb
 have hg:a.group=b.group:=by simp at hab hba; omega
 have hn2:=List.pairwise_map.1 (show ((l.map (·.group)).Pairwise (·≠·)) from hn)
 obtain ⟨i,hi⟩:=List.mem_iff_getElem?.1 ha'
 obtain ⟨j,hj⟩:=List.mem_iff_getElem?.1 hb'
 obtain ⟨hil,hie⟩:=List.getElem?_eq_some_iff.1 hi
 obtain ⟨hjl,hje⟩:=List.getElem?_eq_some_iff.1 hj
 rcases Nat.lt_trichotomy i j with h|h|h
 ·have:=List.pairwise_iff_getElem.1 hn2 i j hil hjl h
  rw [hie,hje] at this; exact absurd hg this
 ·subst h; rw [← hie,← hje]
 ·have:=List.pairwise_iff_getElem.1 hn2 j i hjl hil h
  rw [hie,hje] at this; exact absurd hg.symm this
theorem ordr_group :Ordr (ltc (fun a b:Rng=>cmpI a.group b.group)) :=
 ⟨fun {a b} h=>by simp only [ltc,cmpI_ltz] at h ⊢; omega,fun {a b c} h1 h2=>by simp only [ltc,cmpI_ltz] at h1 h2 ⊢; omega⟩
theorem filter_take_succ {α:Type} (p:α→Bool) (l:List α) {i:Nat} (hi:i<l.length):(l.take (i+1)).filter p=(l.take i).filter p++(if p l[i]=true then [l[i]] else []):=by
 rw [List.take_succ_eq_append_getElem hi,List.filter_append]
 congr 1
 by_cases h:p l[i]=true<;>simp [h]
theorem filter_take_le {α:Type} (p:α→Bool) (l:List α) (i:Nat):((l.take i).filter p).length≤l.length:=by
 refine Nat.le_trans (List.length_filter_le _ _) ?_
 rw [List.length_take]; omega
theorem partsF_snoc (t:Txn) (l:List Rng) (r:Rng) (c:Cl):partsF t (l++[r]) c=partF (partsF t l c) (preparedF t r) r.group 0:=by unfold partsF; rw [List.foldl_append]; rfl
def CoordIs (w0:World) (o:Option Coo) (v:Value) (K:Hp):Prop:=match o with
 | none=>v=.pointer none∧K=0
 | some k=>∃ kb,v=pB kb∧CooAt w0 kb k K
theorem CoordIs.shape {w0:World} {o:Option Coo} {v:Value} {K:Hp} (h:CoordIs w0 o v K):∃ q,v=.pointer q:=by
 cases o with
 | none=>exact ⟨_,h.1⟩
 | some k=>obtain ⟨kb,h,-⟩:=h; exact ⟨_,h⟩
theorem coNew2_spec (w0:World) (X:Hp) (me txn:Int) (parts:List Int) (a:Option Addr) (cp:Nat) (acc:Int) (hv:RdL w0 X (.slice a parts.length cp) parts) (hl:parts.length≤1000000000) :
  Spec Tryz.prog w0 213 [.int .i64 me,.int .i64 txn,.slice a parts.length cp,.int .i64 acc] X
   (fun r h'=>∃ v e K,r=.tuple #[v,.int .i64 e]∧CoordIs w0 (newO me txn parts acc) v K∧X+K=h'):=by
 refine (coNew_spec w0 X me txn parts a cp acc hv hl).mono ?_
 rintro r h' (⟨h1,rfl,rfl⟩|⟨h1,kb,K,rfl,hK,rfl⟩)
 ·exact ⟨_,_,0,rfl,by unfold newO; rw [if_neg (by rw [h1]; simp)]; exact ⟨rfl,rfl⟩,yA _⟩
 ·exact ⟨_,_,K,rfl,by unfold newO; rw [if_pos h1]; exact ⟨kb,rfl,hK⟩,rfl⟩
theorem zdT {G G' : Prop} (h : G') (f : Zh G'→G:=by intro h; (repeat (first|refine zF ?_|refine zR ?_|refine zB ?_|refine zE ?_|refine zK M M M ?_|refine zY M M M M M ?_|refine L_ld M M M M M ?_|refine L_len M M M ?_|refine L_st M M M (c':=(_::_::_::_::_::_::_::_::_::_::_::_::_::_::_::_::_::_::_::_::_::_::_::_::_::_::_::_::_::_::_::_::_::_::_::_::_::_::[])) M M M M ?_)); exact h.o) : G:=f ⟨h⟩
section
variable (w0:World) (X:Hp) (b tb:Nat) (c:Cl) (S:Hp) (n:Nat)
theorem preparing_spec (hS:CliT w0 X b tb c S) (hZ:Sz n c) (hn:n+100≤100000000) (hF:Fine c) (ht:c.opn=true∨c.own=true) :
  Spec Tryz.prog w0 154 [pB b,pB tb] (X+S) (fun r h'=>After w0 X b tb (prepareF c) h'):=by
 obtain ⟨⟨vmem,vr0,vsets,vmr,vg,ve,vd,vrq,vop,vow,vw,vco,vou,van⟩,ps,hG,hE,hD,hR,hT,hK,hO,P,rfl⟩:=hS
 have hT2:TxnAt w0 X tb c.cur hT:=by
  rcases P.txn with h|h
  ·exact h
  ·rcases ht with h2|h2
   ·rw [h.1] at h2; cases h2
   ·rw [h.2.1] at h2; cases h2
 obtain ⟨am,cm,hvm,hrm⟩:=P.mr
 simp only at hvm
 subst hvm
 have hml:=hZ.m.len
 have htz:=hZ.cur
 have hT0:=hT2
 obtain ⟨vr,va,vw',ap,cp,hr,ha,hw,rfl,k1,k2,k3,k4⟩:=hT2
 have hfl:=fun i=>filter_take_le (ofF c.cur) c.m.rngs i
 refine zN Tryz.func154 M Tryz.ntmps154 Tryz.results154 M fun fr=>?_
 refine zdT ?_
 refine hold_count c.m.rngs.length (fun i g L=>∃ (ao:Option Addr) (co:Nat) (ho R:Hp),g=[(0,pB b),(1,pB tb),(4,.slice ao ((c.m.rngs.take i).filter (ofF c.cur)).length co),(19,.slice am c.m.rngs.length cm),(20,.int .i64 c.m.rngs.length),(21,.int .i64 i)] ∧
  OwL w0 X ((c.m.rngs.take i).filter (ofF c.cur)) (.slice ao ((c.m.rngs.take i).filter (ofF c.cur)).length co) ho ∧
  L=cliC b (clL { c with own:=true } ⟨vmem,vr0,vsets,.slice am c.m.rngs.length cm,vg,ve,vd,vrq,vop,pB tb,vw,vco,vou,van⟩)+(X+(txnC tb (.int .i64 c.cur.id::.int .i64 c.cur.age::vr::va::vw'::.slice ap c.cur.parts.length cp::.int .i64 c.cur.slo::.int .i64 c.cur.shi::[])+(hr+(ha+hw)))+(hG+(hE+(hD+(hR+(hK+hO)))))+fr)+ho+R) _
  ⟨none,0,0,_,rfl,OwL.nil _ _,by rw [show ∀ a b:Hp,a+0+b=a+b from fun a b=>by rw [yA]]; exact yJ.out⟩ zsb ?_
 rintro i g L hi ⟨ao,co,ho,R,rfl,hof,rfl⟩
 refine zaH ?_
 refine yF M M (pv_lss M M) (fun n1=>?_) (fun n1=>?_)
 ·have hx:i<c.m.rngs.length:=by omega
  have hfi:=hfl i
  obtain ⟨bq,oq,rfl,e,rfl,hat⟩:=hrm.at hx
  have hs:=filter_take_succ (ofF c.cur) c.m.rngs hx
  generalize c.m.rngs[i]=r at *
  repeat (first|refine zF ?_|refine zR ?_|refine zB ?_|refine zE ?_|refine zK M M M ?_|refine zP ?_|refine zJ M ?_|refine L_idx M M (by omega) M M ?_|refine L_atA M (by assumption) M M M M ?_|refine L_ldA M (vs:=[_,_,_,_]) M M M M M ?_|refine L_stA M (vs:=[_,_,_,_]) M M M M (c':=[_,_,_,_]) M M ?_|refine L_alloc (c:=[_,_,_,_]) M M M (fun _=>?_))
  refine zX M M (zQ M M M) (offTxn_spec w0 X tb c.cur _ hT0 r (by have:=htz.reads.1; have:=htz.writes.1; omega)) ?_
  rintro _ _ ⟨rfl,rfl⟩
  cases hmi:ofF c.cur r
  ·rw [hmi,if_neg (by simp),List.append_nil] at hs
   refine zaJ ?_
   refine ⟨hx,_,?_,ao,co,ho,_,rfl,by rw [hs]; exact hof,yJ.out⟩
   rw [hs]
   exact zsb
  ·rw [hmi,if_pos M] at hs
   repeat (first|refine zB ?_|refine zE ?_|refine zK M M M ?_|refine zJ M ?_|refine L_ldA M (vs:=[_,_,_,_]) M M M M M ?_|refine L_bs (vs:=[_]) (cells:=[_,_,_,_]) M M M M M M (fun _=>?_))
   refine L_eff M M (ev_appendL (X:=X) (h:=ho) (ns:=[r]) M M hof (rd_one M) (All2.one M) M M M M M (by rw [List.length_singleton]; omega)) ?_
   rintro v5 _ ⟨h5,ho5,rfl⟩
   rw [← hs] at ho5
   obtain ⟨a5,c5,rfl⟩:=ho5.shape
   refine zaI ?_
   exact ⟨hx,_,zsb,a5,c5,h5,_,rfl,ho5,yJ.out⟩
 ·obtain rfl:i=c.m.rngs.length:=by omega
  rw [List.take_length] at hof ⊢
  have hfi:=hfl c.m.rngs.length
  rw [List.take_length] at hfi
  have hnd:((c.m.rngs.filter (ofF c.cur)).map (·.group)).Nodup:=List.Pairwise.sublist (List.Sublist.map _ List.filter_sublist) hZ.m.nodup
  have hbg:∀ {l2:List Rng},l2.Perm (c.m.rngs.filter (ofF c.cur))→l2.Pairwise (fun a b=>¬ cmpI b.group a.group<0)→l2=prepL c:=fun h1 h2=>byGroup_eq h1 h2 hnd
  have hsort:=sortFuncRng_spec w0 X 229 [] (fun a b=>cmpI a.group b.group) (fun Y x y e f he hf=>prepare1_spec w0 X x y e f Y Y he hf) ordr_group (c.m.rngs.filter (ofF c.cur)) _ ho hof (by omega)
  refine zbA ?_
  refine zX M M (zQ M M M) hsort ?_
  rintro _ _ ⟨l2,h2,hl1,hl2,hol,rfl⟩
  have hlen2:=hl1.length_eq
  obtain rfl:=hbg hl1 hl2
  rw [← hlen2] at hol hfi ⊢
  clear hbg hl1 hl2 hnd hof hsort
  have hlm:∀ r∈prepL c,r∈c.m.rngs:=fun r hr=>prepL_mem hr
  unfold prepareF
  generalize prepL c=l2 at *
  repeat (first|refine zF ?_|refine zR ?_|refine zB ?_|refine zE ?_|refine zK M M M ?_|refine zY M M M M M ?_|refine L_len M M M ?_|refine L_st M M M (c':=[_,_,_,_,_,_,_,_]) M M M M ?_)
  refine hold_count l2.length (fun i g L=>∃ (a2:Option Addr) (c2:Nat) (hp R:Hp),g=[(0,pB b),(1,pB tb),(4,.slice ao l2.length co),(38,.slice ao l2.length co),(39,.int .i64 l2.length),(40,.int .i64 i)] ∧
   OwL w0 0 ((l2.take i).map (·.group)) (.slice a2 ((l2.take i).map (·.group)).length c2) hp ∧
   L=cliC b (clL { c with own:=true } ⟨vmem,vr0,vsets,.slice am c.m.rngs.length cm,vg,ve,vd,vrq,vop,pB tb,vw,vco,vou,van⟩)+(X+(txnC tb (.int .i64 c.cur.id::.int .i64 c.cur.age::vr::va::vw'::.slice a2 ((l2.take i).map (·.group)).length c2::.int .i64 c.cur.slo::.int .i64 c.cur.shi::[])+(hr+(ha+hw)))+(hG+(hE+(hD+(hR+(hK+hO)))))+fr)+h2+hp+R) _
   ⟨none,0,0,_,rfl,OwL.nil _ _,by rw [show ((l2.take 0).map (·.group)).length=0 from rfl,show ∀ a b:Hp,a+0+b=a+b from fun a b=>by rw [yA]]; exact yJ.out⟩ zsb ?_
  rintro i g L hi ⟨a2,c2,hp,R2,rfl,hop,rfl⟩
  have hil:((l2.take i).map (·.group)).length≤l2.length:=by rw [List.length_map,List.length_take]; omega
  refine zaH ?_
  refine yF M M (pv_lss M M) (fun n1=>?_) (fun n1=>?_)
  ·have hx:i<l2.length:=by omega
   obtain ⟨bq,oq,rfl,e,rfl,hat⟩:=OwL.at hol hx
   have hs:(l2.take (i+1)).map (·.group)=(l2.take i).map (·.group)++[l2[i].group]:=by rw [List.take_succ_eq_append_getElem hx,List.map_append]; rfl
   generalize l2[i]=r at *
   repeat (first|refine zF ?_|refine zR ?_|refine zB ?_|refine zE ?_|refine zP ?_|refine zJ M ?_|refine L_idx M M (by omega) M M ?_|refine L_atA M (by assumption) M M M M ?_|refine L_stA M (vs:=[_,_,_,_]) M M M M (c':=[_,_,_,_]) M M ?_|refine L_alloc (c:=[_,_,_,_]) M M M (fun _=>?_))
   refine yB [7,8,11] [0,1,2,3,4,5,6,7,8,9,10,11] (by kernel_rfl) M (by kernel_rfl) (by kernel_rfl) ?_
   refine zaF ?_
   refine W_eff M M M M (ev_buildSlice (vs:=[_]) (cells:=[_]) M M M M) (Kept.all _) ?_
   rintro _ _ ⟨bn,rfl,rfl⟩
   refine ⟨zka,?_⟩
   skip
   refine W_eff M M M M (ev_appendL (X:=0) (ns:=[r.group]) (h:=hp) M M hop (rd_one M) (All2.one M) M M M M M (by rw [List.length_singleton]; omega)) (Kept.all _) ?_
   rintro v5 _ ⟨h5,ho5,rfl⟩
   rw [← hs] at ho5
   obtain ⟨a5,c5,rfl⟩:=ho5.shape
   refine ⟨zka,?_⟩
   refine zaN ?_
   refine W_eff M M M M (ev_store M M M M M (c':=[_,_,_,_,_,_,_,_]) M) (.keep (.drop (by kernel_rfl) .nil)) ?_
   rintro _ _ rfl
   refine ⟨zka,?_⟩
   repeat (refine yI ?_)
   refine zaI ?_
   exact ⟨hx,_,zsb,a5,c5,h5,_,rfl,ho5,yJ.out⟩
  ·obtain rfl:i=l2.length:=by omega
   rw [List.take_length] at hop hil ⊢
   have hrp:RdL w0 hp (.slice a2 (l2.map (·.group)).length c2) (l2.map (·.group)):=hop.rdh
   have hnew:=coNew2_spec w0 hp c.addr c.cur.id (l2.map (·.group)) a2 c2 c.accs hrp (by omega)
   refine zbT ?_
   refine yB [18,24] [0,1,2,3,4,5,6,7,8,9,10,11,12,13,14,15,16,17,18,19,20,21,22,23,24] (by kernel_rfl) M (by kernel_rfl) (by kernel_rfl) ?_
   refine zaF ?_
   refine W_call M M M M (zQ M M M) hnew (Kept.all _) ?_
   rintro _ _ ⟨vk,ek,K,rfl,hK2,rfl⟩
   obtain ⟨qk,rfl⟩:=hK2.shape
   refine ⟨zka,?_⟩
   refine zaN ?_
   refine W_eff M M M M (ev_store M M M M M (c':=(_::_::_::_::_::_::_::_::_::_::_::_::_::_::_::_::_::_::_::_::_::_::_::_::_::_::_::_::_::_::_::_::_::_::_::_::_::_::[])) M) (Kept.all _) ?_
   rintro _ _ rfl
   refine ⟨zka,?_⟩
   repeat (refine yI ?_)
   refine zdT ?_
   have P2:=P.mono (L:=X+hp) (R:=hp) M
   have hT3:TxnAt w0 (X+hp) tb { c.cur with parts:=l2.map (·.group) } _:=⟨vr,va,vw',a2,c2,hr,ha,hw,rfl,k1.mono M,k2,k3.mono M,hop.rd (X:=0) (R:=X)⟩
   have hP:Parts w0 (X+hp) b { c with own:=true,cur:={ c.cur with parts:=l2.map (·.group) },coord:=newO c.addr c.cur.id (l2.map (·.group)) c.accs,about:=c.cur.id } ⟨vmem,vr0,vsets,.slice am c.m.rngs.length cm,vg,ve,vd,vrq,vop,pB tb,vw,.pointer qk,vou,van⟩ tb ps hG hE hD hR _ K hO :=
    Parts.mk P2.mem P2.rngs0 P2.sets P2.mr P2.guess P2.ended P2.dbts P2.reqs P2.opn M (.inl hT3) P2.waits hK2 P2.out P2.ansd
   have hZ2:Sz n (prepC c l2):=hZ.prep l2 (by omega)
   have hS2:CliT w0 (X+hp) b tb (prepC c l2) _:=(⟨_,ps,hG,hE,hD,hR,_,K,hO,hP,rfl⟩:CliT w0 (X+hp) b tb { c with own:=true,cur:={ c.cur with parts:=l2.map (·.group) },coord:=newO c.addr c.cur.id (l2.map (·.group)) c.accs,about:=c.cur.id } _)
   have hep:∀ r∈l2,I64 r.epoch:=fun r hr=>hZ.m.ep r (hlm r hr)
   have hgp:∀ r∈l2,grp r.group:=fun r hr=>hF.rngs r (hlm r hr)
   have hl2:l2.length≤4:=by omega
   have hcur:(prepC c l2).cur={ c.cur with parts:=l2.map (·.group) }:=rfl
   have hown:(prepC c l2).own=true:=rfl
   refine hold_count l2.length (fun i g L=>∃ (E S' R:Hp),g=[(0,pB b),(1,pB tb),(87,.slice ao l2.length co),(88,.int .i64 l2.length),(89,.int .i64 i)]∧CliT w0 (X+hp+E) b tb (partsF (prepC c l2).cur (l2.take i) (prepC c l2)) S'∧L=X+hp+E+S'+fr+h2+R) _
    ⟨0,_,_,rfl,by rw [yA]; exact hS2,by rw [yA (X+hp)]; exact yJ.out⟩ zsb ?_
   clear hP P2 P hS2 hnew hT0 hT3
   generalize prepC c l2=c1 at *
   rintro i g L hi ⟨E,S',R3,rfl,hS',rfl⟩
   refine zaH ?_
   refine yF M M (pv_lss M M) (fun n1=>?_) (fun n1=>?_)
   ·have hx:i<l2.length:=by omega
    have hs:=partsF_snoc c1.cur (l2.take i) l2[i] c1
    rw [← List.take_succ_eq_append_getElem hx] at hs
    obtain ⟨bq,oq,rfl,e,rfl,hat⟩:=OwL.at hol hx
    have hrg:=hgp _ (List.getElem_mem hx)
    have hBi:=(Sz.parts hZ2.cur (by omega) (l2.take i) (fun r hr=>hep r (List.mem_of_mem_take hr)) hZ2 (by rw [List.length_take]; omega)).bd
    obtain ⟨sq,rq,eo⟩:=parts_only c1.cur (l2.take i) c1
    have hc2:(partsF c1.cur (l2.take i) c1).cur=c1.cur:=by rw [eo]
    have ho2:(partsF c1.cur (l2.take i) c1).own=true:=by rw [eo]; exact hown
    clear eo
    generalize partsF c1.cur (l2.take i) c1=c2 at *
    generalize l2[i]=r at *
    obtain ⟨⟨um,ur0,us,umr,ug,ue,ud,urq,uop,uow,uw,uco,uou,uan⟩,qs,jG,jE,jD,jR,jT,jK,jO,P2,rfl⟩:=id hS'
    have hT4:TxnAt w0 (X+hp+E) tb c1.cur jT:=by
     rcases P2.txn with h|h
     ·rw [hc2] at h; exact h
     ·rw [h.2.1] at ho2; cases ho2
    repeat (first|refine zF ?_|refine zR ?_|refine zB ?_|refine zE ?_|refine zP ?_|refine zJ M ?_|refine L_idx M M (by omega) M M ?_|refine L_atA M (by assumption) M M M M ?_|refine L_stA M (vs:=[_,_,_,_]) M M M M (c':=[_,_,_,_]) M M ?_|refine L_alloc (c:=[_,_,_,_]) M M M (fun _=>?_))
    refine yB [5,8] [0,1,2,3,4,6,7,5,8] (by kernel_rfl) M (by kernel_rfl) (by kernel_rfl) ?_
    repeat (first|refine yH M M M M M ?_|refine yD M M M M (zZ M M M) ?_|refine W_load M M M M (yE M) (zG M (zS M)) ?_|refine W_load M M M M (yE M) (zL (vs:=[_,_,_,_]) M M M) ?_)
    refine W_call M M M M (zQ M M M) (prepare_spec w0 (X+hp+E) b tb c1.cur jT hT4 r (by have:=hZ2.cur.reads.1; have:=hZ2.cur.writes.1; omega)) (Kept.all _) ?_
    rintro _ _ ⟨E2,e2,rfl,hre,rfl⟩
    refine ⟨zka,?_⟩
    skip
    refine W_call M M M M (zQ M M M) (parting_spec w0 (X+hp+E+E2) b tb c2 _ _ (hS'.mono M) hBi (by rw [List.length_take]; omega) (pB tb) ⟨_,rfl⟩ (preparedF c1.cur r) e2 hre r.group hrg 0 (by omega)) (Kept.all _) ?_
    rintro _ _ ⟨E3,S3,h3,rfl⟩
    refine ⟨zka,?_⟩
    repeat (refine yI ?_)
    refine zaI ?_
    exact ⟨hx,_,zsb,E+E2+E3,S3,_,rfl,by rw [hs,← hadd_assoc,← hadd_assoc]; exact h3,yJ.out⟩
   ·obtain rfl:i=l2.length:=by omega
    rw [List.take_length] at hS'
    refine zbT ?_
    exact ⟨[],_,_,trivial,⟨hp+E,S',by rw [← hadd_assoc]; exact hS',rfl⟩,yJ.out⟩
end
section
variable {P:Program} {g:Env}
theorem pv_neq_nilfunc {t ty:TypeId} {ps rs:Array TypeId} {vr:Bool} [hu:Und P t (.func ps rs vr)] {x y:Operand} {v:Value} {r:Bool} (hx:ev g x=some v) (hy:ev g y=some .nilFunc)
  (hv:(v=.nilFunc∧r=true)∨((∃ a b c,v=.func a b c)∧r=false)):PV P g (.binOp .neq t x y ty) (.bool (!r)):=by
 intro o a w m ho ha; unfold execOp
 have h1:(Op.equal t v .nilFunc).run P w=.ok r w:=run_eqf hu.out 9999 w hv
 have h2:(binOp .neq t v .nilFunc).run P w=.ok (.bool (!r)) w:=by
  rcases hv with ⟨rfl,rfl⟩|⟨⟨a',b',c',rfl⟩,rfl⟩<;>(simp only [binOp]; simp [h1])
 have h3:(eqGuard .neq t x y v .nilFunc).run P w=.ok () w:=by
  rcases hv with ⟨rfl,rfl⟩|⟨⟨a',b',c',rfl⟩,rfl⟩<;>(unfold eqGuard; split<;>simp_all)
 simp only [ho,ha.ev hx,ha.ev hy,Sem.run_bind,h3,Result.andThen_ok,h2,Sem.run_pure]
end
theorem zfA {G G' : Prop} (h : G') (f : Zh G'→G:=by intro h; (repeat (first|refine zF ?_|refine zB ?_|refine zE ?_|refine zK M M M ?_|refine zY M M M M M ?_|refine L_ld M M M M M ?_|refine zP ?_|refine zI M ?_|refine L_st M M M (c':=(_::_::_::_::_::_::_::_::_::_::_::_::_::_::_::_::_::_::_::_::_::_::_::_::_::_::_::_::_::_::_::_::_::_::_::_::_::_::[])) M M M M ?_|refine L_at M (by assumption) M M M M ?_)); exact h.o) : G:=f ⟨h⟩
section
variable (w0:World) (X:Hp) (b tb:Nat) (c:Cl) (S:Hp) (n:Nat)
theorem commitRun_spec (hS:CliT w0 X b tb c S) (hZ:Sz n c) (hn:n+100≤100000000) (hF:Fine c) (ho:c.opn=true) (p q:Nat) (hp:At w0 X p 0 [pB b]) (hq:At w0 X q 0 [pB tb]) :
  Spec Tryz.prog w0 153 [pB p,pB q] (X+S) (fun v h'=>After w0 X b tb (runW c .prep) h'):=by
 refine zN Tryz.func153 M Tryz.ntmps153 Tryz.results153 M fun fr=>?_
 repeat (first|refine zB ?_|refine L_at M (by assumption) M M M M ?_)
 refine zX M M (zQ M M M) (preparing_spec w0 X b tb c S n hS hZ hn hF (.inl ho)) ?_
 rintro _ _ hA
 repeat (refine zE ?_)
 exact ⟨[],_,_,trivial,hA,yJ.out⟩
theorem snapRun_spec (hS:CliT w0 X b tb c S) (hZ:Sz n c) (hn:n+100≤100000000) (hF:Fine c) (ho:c.own=true) (p q:Nat) (hp:At w0 X p 0 [pB b]) (hq:At w0 X q 0 [pB tb]) :
  Spec Tryz.prog w0 155 [pB p,pB q] (X+S) (fun v h'=>After w0 X b tb (runW c .snap) h'):=by
 refine zN Tryz.func155 M Tryz.ntmps155 Tryz.results155 M fun fr=>?_
 repeat (first|refine zB ?_|refine L_at M (by assumption) M M M M ?_)
 refine zX M M (zQ M M M) (preparing_spec w0 X b tb c S n hS hZ hn hF (.inr ho)) ?_
 rintro _ _ hA
 repeat (refine zE ?_)
 exact ⟨[],_,_,trivial,hA,yJ.out⟩
theorem waitRun_spec (hS:CliT w0 X b tb c S) (hZ:Sz n c) (hn:n+100≤100000000) (hF:Fine c) (w:Wts) (v:Value) (hW:WaitAt w0 X b tb (some w) v) (hk:kindW c w) :
  ∃ k caps,Fun Tryz.prog k∧v=.func (.func k) #[] caps.toArray∧Spec Tryz.prog w0 k caps (X+S) (fun r h'=>After w0 X b tb (runW c w) h'):=by
 have hml:=hZ.m.len
 have hal:=hZ.cur.asked
 cases w with
 | read x=>obtain ⟨p,q,d,rfl,h1,h2⟩:=hW; exact ⟨_,[pB p,pB q],inferInstance,rfl,readRun_spec w0 X b tb c S n hS hZ.bd (by omega) hF (by omega) hk.2.1 (by omega) x d p q h1 h2⟩
 | prep=>obtain ⟨p,q,rfl,h1,h2⟩:=hW; exact ⟨_,[pB p,pB q],inferInstance,rfl,commitRun_spec w0 X b tb c S n hS hZ hn hF hk.2.1 p q h1 h2⟩
 | snap=>obtain ⟨p,q,rfl,h1,h2⟩:=hW; exact ⟨_,[pB p,pB q],inferInstance,rfl,snapRun_spec w0 X b tb c S n hS hZ hn hF hk.2.2 p q h1 h2⟩
 | kept x=>obtain ⟨p,q,d,rfl,h1,h2⟩:=hW; exact ⟨_,[pB p,pB q],inferInstance,rfl,keptRun_spec w0 X b tb c S n hS hZ.bd (by omega) hF (by omega) x d p q h1 h2⟩
 | again x=>obtain ⟨p,q,d,rfl,h1,h2⟩:=hW; exact ⟨_,[pB p,pB q],inferInstance,rfl,again_spec w0 X b tb c S n hS hZ.bd (by omega) hF (by omega) x d p q h1 h2⟩
variable (r:Res) (ad:Option Addr) (cp:Nat)
theorem heardPart_spec (hS:CliT w0 X b tb c S) (hZ:Sz n c) (hn:n+300≤100000000) (hF:Fine c) (hr:RdL w0 X (.slice ad r.data.length cp) r.data) (o:Opn) (g:Int) (hg:grp g) (hph:c.own=true)
  (p q s u:Nat) (t:Option Addr) (e:List Value) (h1:At w0 X p 0 [pB b]) (h2:At w0 X q 0 [.pointer t]) (h3:At w0 X s 0 e) (h4:Rep.rd w0 X o e) (h5:At w0 X u 0 [.int .i64 g]) :
  Spec Tryz.prog w0 294 [.agg [.int .i64 r.code,.slice ad r.data.length cp].toArray,pB p,pB q,pB s,pB u] (X+S) (fun v h'=>After w0 X b tb (heardF c (.part o g) r) h'):=by
 have hpart:=parting_spec w0 X b tb c S n hS hZ.bd (by omega) (.pointer t) ⟨_,rfl⟩ o e h4 g hg 1 (by omega)
 have hturn:=turn_spec w0 X b tb c S n hS hZ.bd (by omega)
 obtain ⟨a1,c1,a2,c2,a3,c3,a4,c4,rfl,-⟩:=id h4
 refine zN Tryz.func294 M Tryz.ntmps294 Tryz.results294 M fun fr=>?_
 repeat (first|refine zF ?_|refine zR ?_|refine zB ?_|refine zE ?_|refine zY M M M M M ?_|refine L_ld M M M M M ?_|refine L_box M (c:=[_,_]) M M M (fun _=>?_))
 refine yF M M (pv_eql M M) (fun h=>?_) (fun h=>?_)
 ·simp only [heardF,if_pos h]
  repeat (first|refine zE ?_|refine zK M M M ?_|refine zP ?_|refine zJ M ?_)
  exact ⟨[],_,_,trivial,After.now hS,yJ.out⟩
 simp only [heardF,if_neg h]
 refine zaA ?_
 refine yF M M (pv_eql M M) (fun h6=>?_) (fun h6=>?_)
 ·simp only [if_pos h6]
  refine zdN ?_
  refine zX M M (zQ M M M) hpart ?_
  rintro _ _ hA
  repeat (refine zE ?_)
  exact ⟨[],_,_,trivial,hA,yJ.out⟩
 simp only [if_neg h6]
 have had:Adds c (if r.code=26 then turnF c else c):=by split<;>first|exact turnF_adds c|exact Adds.refl c
 have hkp:=adds_keep had
 have hF1:=hF.adds had
 have hZ1:=hZ.turns (by omega) (r.code=26)
 refine zbG ?_
 refine yF M M (pv_eql M M) (fun h7=>?_) (fun h7=>?_)
 ·rw [if_pos h7] at *
  repeat (first|refine zB ?_|refine zE ?_|refine zJ M ?_|refine L_at M (by assumption) M M M M ?_)
  refine zX M M (zQ M M M) hturn ?_
  rintro _ _ ⟨E,S1,hS1,rfl⟩
  repeat (first|refine zB ?_|refine zE ?_|refine L_at M (by assumption) M M M M ?_)
  refine zX M M (zQ M M M) (coming_spec w0 (X+E) b tb _ S1 (n+1) hS1 hZ1 (by omega) hF1 2 i64_2 (.inl (by rw [hkp.2.2.2.1]; exact hph))) ?_
  rintro _ _ hA
  repeat (refine zE ?_)
  exact ⟨[],_,_,trivial,hA.trans,yJ.out⟩
 ·rw [if_neg h7] at *
  repeat (first|refine zB ?_|refine zE ?_|refine zP ?_|refine zI M ?_|refine L_at M (by assumption) M M M M ?_)
  refine zX M M (zQ M M M) (coming_spec w0 X b tb _ S (n+1) hS hZ1 (by omega) hF1 2 i64_2 (.inl hph)) ?_
  rintro _ _ hA
  repeat (refine zE ?_)
  exact ⟨[],_,_,trivial,hA,yJ.out⟩
theorem heardLook_spec (hS:CliT w0 X b tb c S) (hZ:Sz n c) (hn:n+300≤100000000) (hF:Fine c) (hr:RdL w0 X (.slice ad r.data.length cp) r.data) (hlen:r.data.length≤1000000) (hk:∀ w,c.waits=some w→kindW c w)
  (p:Nat) (h1:At w0 X p 0 [pB b]) :
  Spec Tryz.prog w0 353 [.agg [.int .i64 r.code,.slice ad r.data.length cp].toArray,pB p] (X+S) (fun v h'=>After w0 X b tb (heardF c .look r) h'):=by
 have hlook:=looking_spec w0 X b tb c S n hS hZ.bd (by omega) 1 (by omega)
 have hlearn:=learning_spec w0 X b tb c S hS r.data ad cp hr (by omega)
 have hZ1:=hZ.learn r.data
 have hl:=learnF_learns c r.data
 have hF1:=hl.choose_spec.2 hF
 have hk1:∀ w,(learnF c r.data).waits=some w→kindW (learnF c r.data) w:=by
  obtain ⟨m,e,-⟩:=hl
  rw [e]
  intro w hw
  have:=hk w hw
  cases w<;>exact this
 refine zN Tryz.func353 M Tryz.ntmps353 Tryz.results353 M fun fr=>?_
 repeat (first|refine zF ?_|refine zB ?_|refine zE ?_|refine zY M M M M M ?_|refine L_ld M M M M M ?_|refine L_box M (c:=[_,_]) M M M (fun _=>?_))
 refine yF M M (pv_neq M M) (fun h=>?_) (fun h=>?_)
 ·simp only [heardF,if_pos h]
  repeat (first|refine zF ?_|refine zB ?_|refine zE ?_|refine zK M M M ?_|refine L_skip M M ?_|refine zJ M ?_|refine L_at M (by assumption) M M M M ?_)
  refine zX M M (zQ M M M) hlook ?_
  rintro _ _ hA
  refine zbI ?_
  exact ⟨[],_,_,trivial,hA,yJ.out⟩
 simp only [heardF,if_neg h]
 repeat (first|refine zK M M M ?_|refine zY M M M M M ?_|refine L_ld M M M M M ?_|refine L_at M (by assumption) M M M M ?_)
 refine zX M M (zQ M M M) hlearn ?_
 rintro _ _ ⟨rfl,E,S1,hS1,rfl⟩
 generalize learnF c r.data=c1 at *
 by_cases hm:(getMapF r.data).2=0
 rotate_left
 ·rw [decide_eq_false hm,if_pos hm]
  refine zeS ?_
  refine zX M M (zQ M M M) (looking_spec w0 (X+E) b tb c1 S1 n hS1 hZ1.bd (by omega) 1 (by omega)) ?_
  rintro _ _ hA
  refine zbI ?_
  exact ⟨[],_,_,trivial,hA.trans,yJ.out⟩
 rw [decide_eq_true hm,if_neg (by simpa using hm)]
 obtain ⟨⟨vmem,vr0,vsets,vmr,vg,ve,vd,vrq,vop,vow,vw,vco,vou,van⟩,ps,hG,hE,hD,hR,hT,hK,hO,P,rfl⟩:=hS1
 have hZ2:Sz n { c1 with stale:=false }:=hZ1.free
 have hF2:=hF1.stale false
 have hk2:∀ w,c1.waits=some w→kindW { c1 with stale:=false,waits:=none } w:=by
  intro w hw
  have:=hk1 w hw
  cases w<;>exact this
 unfold goF
 cases hw:c1.waits with
 | none =>
  have hvw:vw=.nilFunc:=by have:=P.waits; rw [hw] at this; exact this
  subst hvw
  refine zfA ?_
  refine yG M M (pv_neq_nilfunc (r:=true) M M (.inl ⟨rfl,rfl⟩)) ?_
  refine zaZ ?_
  have hP:Parts w0 (X+E) b { c1 with stale:=false,waits:=none } ⟨vmem,vr0,vsets,vmr,vg,ve,vd,vrq,vop,vow,.nilFunc,vco,vou,van⟩ tb ps hG hE hD hR hT hK hO :=
   Parts.mk P.mem P.rngs0 P.sets P.mr P.guess P.ended P.dbts P.reqs P.opn P.own P.txn M P.coord P.out P.ansd
  exact end_cli (X:=X+E) [] trivial hP (by exact rfl) hP.now.after.trans
 | some w =>
  have hvw:WaitAt w0 (X+E) b tb (some w) vw:=by have:=P.waits; rw [hw] at this; exact this
  have hP:Parts w0 (X+E) b { c1 with stale:=false,waits:=none } ⟨vmem,vr0,vsets,vmr,vg,ve,vd,vrq,vop,vow,.nilFunc,vco,vou,van⟩ tb ps hG hE hD hR hT hK hO :=
   Parts.mk P.mem P.rngs0 P.sets P.mr P.guess P.ended P.dbts P.reqs P.opn P.own P.txn M P.coord P.out P.ansd
  have hF3:Fine { c1 with stale:=false,waits:=none }:=⟨hF2.guess,hF2.reqs,hF2.rngs,hF2.parts,hF2.asked,hF2.doubts,hF2.coord,hF2.nmem⟩
  obtain ⟨k,caps,hfk,rfl,hrun⟩:=waitRun_spec w0 (X+E) b tb { c1 with stale:=false,waits:=none } _ n ⟨_,ps,hG,hE,hD,hR,hT,hK,hO,hP,rfl⟩ (hZ2.wait (w:=none) trivial) (by omega) hF3 w vw hvw (hk2 w hw)
  refine zfA ?_
  refine yG M M (pv_neq_nilfunc (r:=false) M M (.inr ⟨⟨_,_,_,rfl⟩,rfl⟩)) ?_
  repeat (first|refine zF ?_|refine zB ?_|refine zE ?_|refine zK M M M ?_|refine zY M M M M M ?_|refine zJ M ?_|refine L_st M M M (c':=(_::_::_::_::_::_::_::_::_::_::_::_::_::_::_::_::_::_::_::_::_::_::_::_::_::_::_::_::_::_::_::_::_::_::_::_::_::_::[])) M M M M ?_|refine L_at M (by assumption) M M M M ?_)
  refine zX M M (zQ M M (by simp<;>rfl)) hrun ?_
  rintro _ _ hA
  repeat (refine zE ?_)
  exact ⟨[],_,_,trivial,hA.trans,yJ.out⟩
end
section
variable {P:Program} {g:Env}
theorem ev_eql_ptr {w0:World} {L:Hp} {t te ty:TypeId} [hu:Und P t (.pointer te)] {sz by':Nat} {z:Value} [hi:Inf P te sz by' z] (hsz:(sz==0)=false) {x y:Operand} {p q:Nat} (hx:ev g x=some (pB p)) (hy:ev g y=some (pB q))
  {cp cq:Array Value} {tp tq:TypeId} (hp:∃ R,L=pt p (.cells cp tp (0,0))+R) (hq:∃ R,L=pt q (.cells cq tq (0,0))+R) :
  EV P w0 L g (.binOp .eql t x y ty) fun u L'=>u=.bool (decide (p=q))∧L'=L:=by
 intro o a w n ho ha hst
 obtain ⟨R1,e1⟩:=hp
 obtain ⟨R2,e2⟩:=hq
 have h1:w.heap[p]?=some (.cells cp tp (0,0)):=by rw [e1] at hst; exact hst.left.sat.pt.2
 have h2:w.heap[q]?=some (.cells cq tq (0,0)):=by rw [e2] at hst; exact hst.left.sat.pt.2
 obtain ⟨j,j1,j2,j3,j4⟩:=hi.out
 have hz:j.size≠0:=by rw [j2]; intro e; rw [e] at hsz; cases hsz
 have hr:(binOp .eql t (pB p) (pB q)).run P w=.ok (.bool (decide (p=q))) w:=by
  by_cases h:p=q
  ·subst h
   rw [decide_eq_true M]
   exact run_eql_ptr_same w _ hu.out j1
  ·rw [decide_eq_false h]
   exact run_eql_ptr_other w hu.out j1 hz (fun e=>h (by simpa using congrArg Addr.block e)) h1 h2
 refine ⟨_,w,L,.inl ?_,⟨rfl,rfl⟩,hst⟩
 unfold execOp
 have hg:(eqGuard .eql t x y (pB p) (pB q)).run P w=.ok () w:=by unfold eqGuard; simp
 simp only [ho,ha.ev hx,ha.ev hy,Sem.run_bind,hg,Result.andThen_ok,hr,Sem.run_pure]
end
theorem Spec.given {P:Program} {w0:World} {f:FuncId} {args:List Value} {X:Hp} {Q:Value→Hp→Prop} (h:(∃ w fr,St w0 w (X+fr))→Spec P w0 f args X Q):Spec P w0 f args X Q:=fun w fr hw=>h ⟨w,fr,hw⟩ w fr hw
theorem GrsAt.nodup {w0:World} {X:Hp} {b tb:Nat}:∀ {xs:List GRq} {h R:Hp} {w:World},GrsAt w0 X b tb xs h→St w0 w (h+R)→(xs.map (·.blk)).Nodup
 | [],_,_,_,_,_=>List.nodup_nil
 | x::xs,_,R,w,⟨h1,h2,a,c,d⟩,hst=>by
  subst d
  rw [List.map_cons,List.nodup_cons]
  refine ⟨fun hm=>?_,GrsAt.nodup c (R:=h1+R) (w:=w) (by rw [show h2+(h1+R)=h1+h2+R by ac_rfl]; exact hst)⟩
  obtain ⟨y,hy,e⟩:=List.mem_map.1 hm
  obtain ⟨g1,g2,k1,k2⟩:=GrsAt.mem c hy
  obtain ⟨a1,c1,a2,c2,a3,c3,a4,c4,hv,rfl,-⟩:=a
  obtain ⟨a1',c1',a2',c2',a3',c3',a4',c4',hv',rfl,-⟩:=k1
  rw [k2,e] at hst
  have h3:St w0 w (reqC x.blk (reqL x.rq (.slice a1 x.rq.o.parts.length c1) (.slice a2 x.rq.o.reads.length c2) (.slice a3 x.rq.o.writes.length c3) (.slice a4 x.rq.o.data.length c4) hv)+reqC x.blk (reqL y.rq (.slice a1' y.rq.o.parts.length c1') (.slice a2' y.rq.o.reads.length c2') (.slice a3' y.rq.o.writes.length c3') (.slice a4' y.rq.o.data.length c4') hv')+(g2+R)):=by
   refine cast (congrArg (St w0 w) ?_) hst
   ac_rfl
  exact absurd M (h3.left.sat.ne)
def HearOk (c:Cl):Hrd→Prop
 | .read _=>c.opn=true
 | .part _ _=>c.own=true
 | .look=>∀ w,c.waits=some w→kindW c w
 | _=>True
theorem heard_fit {c:Cl} (ha:Any c) (hf:Fine c) {r:Rq} (hr:r∈c.reqs):HearOk c r.heard:=by
 have hcore:=hf.reqs (core r) (List.mem_map.2 ⟨r,hr,rfl⟩)
 by_cases ht:r.tidy=true
 ·have h1:tfree r.heard=true:=hcore.2.2 ht
  cases h:r.heard<;>rw [h] at h1<;>first|trivial|(cases h1; done)|skip
  intro w hw
  rcases ha with ⟨_,_,h3⟩|⟨_,_,h3⟩
  ·rcases h3 with ⟨a,b,w',e,k⟩|⟨_,e,_⟩|⟨_,_,e,_⟩|⟨_,e,_⟩
   ·rw [hw] at e; cases e; exact k
   ·rw [hw] at e; cases e
   ·rw [hw] at e; cases e
   ·rw [hw] at e; cases e
  ·rw [h3.2.1] at hw; cases hw
 ·have hm:r.heard∈pendH c:=List.mem_map.2 ⟨r,List.mem_filter.2 ⟨hr,by simpa using ht⟩,rfl⟩
  rcases ha with ⟨_,_,h3⟩|⟨_,_,h3⟩
  ·rcases h3 with ⟨a,_⟩|⟨⟨h,e,k⟩,_⟩|⟨a,b,_⟩|⟨a,_⟩
   ·rw [a] at hm; cases hm
   ·rw [e,List.mem_singleton] at hm
    rw [← hm] at k
    cases hh:r.heard<;>rw [hh] at k<;>first|trivial|exact k.2|exact k.elim
   ·have:=a _ hm
    cases hh:r.heard<;>rw [hh] at this<;>first|exact b|(cases this; done)
   ·rw [a] at hm; cases hm
  ·rw [h3.1] at hm; cases hm
section
variable (w0:World) (X:Hp) (b tb:Nat) (c:Cl) (S:Hp) (n:Nat)
theorem quiet1_spec (hS:CliT w0 X b tb c S) (cd:Int) (a1:Option Addr) (n1 c1:Nat):Spec Tryz.prog w0 280 [.agg [.int .i64 cd,.slice a1 n1 c1].toArray] (X+S) (fun r h'=>After w0 X b tb c h'):=by
 refine zN Tryz.func280 M Tryz.ntmps280 Tryz.results280 M fun fr=>?_
 repeat (first|refine zB ?_|refine zE ?_|refine L_box M (c:=[_,_]) M M M (fun _=>?_))
 exact ⟨[],_,_,trivial,After.now hS,yJ.out⟩
variable (r:Res) (ad:Option Addr) (cp:Nat)
theorem heardRun_spec (hS:CliT w0 X b tb c S) (hZ:Sz n c) (hn:n+300≤100000000) (hF:Fine c) (hr:RdL w0 X (.slice ad r.data.length cp) r.data) (hlen:r.data.length≤1000000) (h:Hrd) (v:Value) (hH:HeardAt w0 X b tb h v) (hk:HearOk c h) (hh:hrdOk h) :
  ∃ k caps,Fun Tryz.prog k∧v=.func (.func k) #[] caps.toArray∧Spec Tryz.prog w0 k (.agg [.int .i64 r.code,.slice ad r.data.length cp].toArray::caps) (X+S) (fun _ h'=>After w0 X b tb (heardF c h r) h'):=by
 have hml:=hZ.m.len
 have hca:=hZ.cur.asked
 have hcp:=hZ.cur.parts
 have hcr:=hZ.cur.reads.1
 cases h with
 | quiet=>obtain rfl:=hH; exact ⟨_,[],inferInstance,rfl,quiet1_spec w0 X b tb c S hS _ _ _ _⟩
 | look=>obtain ⟨p,rfl,h1⟩:=hH; exact ⟨_,[pB p],inferInstance,rfl,heardLook_spec w0 X b tb c S n r ad cp hS hZ hn hF hr hlen hk p h1⟩
 | read m=>obtain ⟨p,q,s,rfl,h1,h2,h3⟩:=hH; exact ⟨_,[pB p,pB q,pB s],inferInstance,rfl,heardRead_spec w0 X b tb c S n r ad cp hS hZ.bd hF (by omega) (by omega) hk hZ.cur.nums.1 (by omega) hr (by omega) m p q s h1 h2 h3⟩
 | part o g=>obtain ⟨p,q,s,u,t,e,rfl,h1,h2,h3,h4,h5⟩:=hH; exact ⟨_,[pB p,pB q,pB s,pB u],inferInstance,rfl,heardPart_spec w0 X b tb c S n r ad cp hS hZ hn hF hr o g hh hk p q s u t e h1 h2 h3 h4 h5⟩
 | kept x=>obtain ⟨p,q,d,rfl,h1,h2⟩:=hH; exact ⟨_,[pB p,pB q],inferInstance,rfl,heardKept_spec w0 X b tb c S n r ad cp hS hZ.bd hF (by omega) (by omega) hr x d p q h1 h2⟩
 | plan x=>obtain ⟨p,q,s,u,d,rfl,h1,h2,h3,h4⟩:=hH; exact ⟨_,[pB p,pB q],inferInstance,rfl,ok1_spec w0 X b tb c S r ad cp hS hr p q _ [pB s,pB u] (frzF c x (getMapF r.data).1.m1 0) h1 h2 (move1_spec w0 X b tb c S n r ad cp hS hZ.bd (by omega) hr (by omega) x d hh.1 s u h3 h4)⟩
 | frz x m=>obtain ⟨p,q,s,d,rfl,h1,h2,h3⟩:=hH; exact ⟨_,[pB p,pB q,pB s],inferInstance,rfl,freeze1_spec w0 X b tb c S n r ad cp hS hZ.bd (by omega) hr x d m hh.1 hh.2 p q s h1 h2 h3⟩
 | inst x m=>obtain ⟨p,q,s,u,t,d,rfl,h1,h2,h3,h4,h5⟩:=hH; exact ⟨_,[pB p,pB q],inferInstance,rfl,ok1_spec w0 X b tb c S r ad cp hS hr p q _ [pB s,pB u,pB t] (finF c x m) h1 h2 (install1_spec w0 X b tb c S n r ad cp hS hZ.bd (by omega) x d m s u t h3 h4 h5)⟩
 | fin x m=>obtain ⟨p,q,s,u,t,d,rfl,h1,h2,h3,h4,h5⟩:=hH; exact ⟨_,[pB p,pB q],inferInstance,rfl,ok1_spec w0 X b tb c S r ad cp hS hr p q _ [pB s,pB u,pB t] (codeF (quietF (learnF c r.data) x.src.toNat ⟨7,0,0,0,0,m,0,0,0,0,0,0,0,[],[],[],[]⟩) 0) h1 h2 (heardFin_spec w0 X b tb c S n r ad cp hS hZ.bd (by omega) hr (by omega) x d m hh s u t h3 h4 h5)⟩
 | change x=>obtain ⟨p,q,d,rfl,h1,h2⟩:=hH; exact ⟨_,[pB p,pB q],inferInstance,rfl,change1_spec w0 X b tb c S n r ad cp hS hZ.bd (by omega) hr x d hh p q h1 h2⟩
end
instance :Inhabited Rq:=⟨⟨0,op0 0,0,0,false,.quiet⟩⟩
theorem OwL.openI {w0:World} {X h:Hp} {xs:List Int} {v:Value} (H:OwL w0 X xs v h) (hne:xs≠[]) :
  ∃ bk cap spare,v=.slice (some ⟨bk,0,none⟩) xs.length cap∧h=pt bk (.cells (xs.map (Value.int .i64)++spare).toArray 3 (0,0)) ∧
   ∀ ys:List Int,ys.length=xs.length→OwL w0 X ys v (pt bk (.cells (ys.map (Value.int .i64)++spare).toArray 3 (0,0))):=by
 have H1:isRow 3 1 (enc1 xs) v h:=owL_ints.1 H
 obtain ⟨hr1,⟨ad,_,hnil,_⟩|⟨bk,cap,spare,hv,rfl,hr2,hr3,hr4⟩⟩:=H1
 ·exact absurd (List.map_eq_nil_iff.1 hnil) hne
 ·rw [enc1_length] at hv hr2 hr4
  refine ⟨bk,cap,spare,hv,by rw [flat1],fun ys hy=>owL_ints.2 ?_⟩
  have:=isRow_block (E:=3) (b:=bk) (cap:=cap) (spare:=spare) (size:=1) (enc1_len1 ys) (by rw [enc1_length]; omega) hr3 (by rw [enc1_length,hy]; exact hr4)
  rw [flat1,enc1_length,hy] at this
  rw [hv]; exact this
theorem cells_getI (xs:List Int) (spare:List Value) {i:Nat} (hi:i<xs.length):(xs.map (Value.int .i64)++spare)[0+i*1]?=some (.int .i64 xs[i]):=by
 rw [Nat.zero_add,Nat.mul_one,List.getElem?_append_left (by simpa using hi),List.getElem?_map,List.getElem?_eq_getElem hi]; rfl
theorem cells_setI (xs:List Int) (spare:List Value) {i:Nat} (hi:i<xs.length) (m:Int):(xs.map (Value.int .i64)++spare).set (0+i*1) (.int .i64 m)=(xs.set i m).map (Value.int .i64)++spare:=by
 rw [Nat.zero_add,Nat.mul_one,List.set_append_left _ _ (by simpa using hi),List.map_set]
def firstG (ps:List PRq) (rs:List Rq):List GRq:=(firstF rs).map fun i=>⟨(ps.getD i ⟨0⟩).blk,rs.getD i default⟩
theorem ptr_firstG (ps:List PRq) (rs:List Rq):ptrG (firstG ps rs)=firstP ps rs:=by unfold ptrG firstG firstP; rw [List.map_map]; rfl
def toldQ (c:Cl) (m:Msg) (i:Nat):Bool:=match c.reqs[i]? with
 | none=>false
 | some r=>isTold m r
theorem toldAt_eq (c:Cl) (m:Msg):toldAt c m=(firstF c.reqs).find? (toldQ c m):=rfl
theorem told_find (c:Cl) (m:Msg):∀ {i:Nat},i<c.reqs.length→toldQ c m i=isTold m (c.reqs.getD i default):=by
 intro i hi
 unfold toldQ
 rw [List.getD_eq_getElem?_getD,List.getElem?_eq_getElem hi]; rfl
theorem told_idx (ps:List PRq) (c:Cl) (m:Msg):(idxF (fun x:GRq=>isTold m x.rq) (firstG ps c.reqs)=-1∧toldAt c m=none) ∨
  ∃ (j:Nat) (hj:j<(firstF c.reqs).length),idxF (fun x:GRq=>isTold m x.rq) (firstG ps c.reqs)=j∧toldAt c m=some (firstF c.reqs)[j]:=by
 have hlt:∀ i∈firstF c.reqs,i<c.reqs.length:=fun i hi=>firstF_lt hi
 rcases idxF_cases (fun x:GRq=>isTold m x.rq) (firstG ps c.reqs) with ⟨h1,h2⟩|⟨j,hj,h1,h2,h3⟩
 ·refine .inl ⟨h1,?_⟩
  rw [toldAt_eq,List.find?_eq_none]
  intro i hi
  rw [told_find c m (hlt i hi)]
  have:=h2 ⟨(ps.getD i ⟨0⟩).blk,c.reqs.getD i default⟩ (List.mem_map.2 ⟨i,hi,rfl⟩)
  simp only at this
  rw [this]; simp
 ·have hj':j<(firstF c.reqs).length:=by simpa [firstG] using hj
  refine .inr ⟨j,hj',h1,?_⟩
  rw [toldAt_eq]
  refine find_hit hj' ?_ ?_
  ·rw [told_find c m (hlt _ (List.getElem_mem hj'))]
   simpa [firstG] using h2
  ·intro i hi
   rw [told_find c m (hlt i (List.mem_of_mem_take hi))]
   have:=h3 ⟨(ps.getD i ⟨0⟩).blk,c.reqs.getD i default⟩ (by unfold firstG; rw [← List.map_take]; exact List.mem_map.2 ⟨i,hi,rfl⟩)
   simpa using this
theorem map_erase {α β:Type} (f:α→β):∀ (l:List α) (i:Nat),(l.eraseIdx i).map f=(l.map f).eraseIdx i
 | [],_=>rfl
 | _::_,0=>rfl
 | x::l,i+1=>by rw [List.eraseIdx_cons_succ,List.map_cons,List.map_cons,List.eraseIdx_cons_succ,map_erase f l i]
theorem filter_erase :∀ {xs:List GRq} {i:Nat} {x:GRq},(xs.map (·.blk)).Nodup→xs[i]?=some x→xs.filter (fun y=>!decide (y.blk=x.blk))=xs.eraseIdx i
 | [],_,_,_,hx=>by simp at hx
 | y::xs,0,x,hn,hx=>by
  obtain rfl:y=x:=by simpa using hx
  rw [List.map_cons,List.nodup_cons] at hn
  rw [List.filter_cons_of_neg (by simp),List.eraseIdx_cons_zero]
  refine List.filter_eq_self.2 fun z hz=>?_
  have:z.blk≠y.blk:=fun e=>hn.1 (by rw [← e]; exact List.mem_map.2 ⟨z,hz,rfl⟩)
  simp [this]
 | y::xs,i+1,x,hn,hx=>by
  rw [List.map_cons,List.nodup_cons] at hn
  have hx':xs[i]?=some x:=by simpa using hx
  have hne:y.blk≠x.blk:=fun e=>hn.1 (by rw [e]; exact List.mem_map.2 ⟨x,List.mem_iff_getElem?.2 ⟨i,hx'⟩,rfl⟩)
  rw [List.filter_cons_of_pos (by simp [hne]),List.eraseIdx_cons_succ,filter_erase hn.2 hx']
theorem zfC {G G' : Prop} (h : G') (f : Zh G'→G:=by intro h; (repeat (first|refine yH M M M M M ?_|refine yD M M M M (zZ M M M) ?_|refine W_load M M M M (yE M) (zG M (zS M)) ?_|refine W_load M M M M (yE M) (zL (vs:=[_,_]) M M M) ?_)); exact h.o) : G:=f ⟨h⟩
theorem zfB {G G' : Prop} (h : G') (f : Zh G'→G:=by intro h; (repeat (first|refine yH M M M M M ?_|refine yD M M M M (zZ M M M) ?_|refine W_load M M M M (yE M) (zG M (zS M)) ?_|refine W_idx M M M (by omega) M M M ?_)); exact h.o) : G:=f ⟨h⟩
section
variable (w0:World) (X:Hp) (b tb:Nat) (c:Cl) (S:Hp) (n:Nat)
theorem told1_spec (r:Rq) (p b1:Nat) (h:Hp) (m:Msg) (ve vd:Value) (hr:RqAt w0 X b tb p r h) :
  Spec Tryz.prog w0 110 [pB p,pB b1] (h+pt b1 (.cells (cellsM m ve vd).toArray 55 (0,0))) (fun v h'=>v=.bool (isTold m r)∧h+pt b1 (.cells (cellsM m ve vd).toArray 55 (0,0))=h'):=by
 obtain ⟨a1,c1,a2,c2,a3,c3,a4,c4,hv,rfl,q1,q2,q3,q4,hh⟩:=hr
 unfold isTold
 refine zN Tryz.func110 M Tryz.ntmps110 Tryz.results110 M fun fr=>?_
 refine zaC ?_
 refine yB [] [0,1,2,3,4,5,6,7,8,9,10,11,12,13,14,15,16,17,18,19,20,21,22,23,24] (by kernel_rfl) M (by kernel_rfl) (by kernel_rfl) ?_
 refine zaF ?_
 refine W_dec M M M M (pv_eql M M) (fun n1=>?_) (fun n1=>?_)
 ·refine zaF ?_
  refine W_dec M M M M (pv_eql M M) (fun n2=>?_) (fun n2=>?_)
  ·refine zaF ?_
   refine yD M M M M (pv_geq M M) ?_
   refine zaD ?_
   repeat (refine zM ?_)
   exact ⟨[_],_,_,⟨rfl,trivial⟩,⟨congrArg Value.bool (decide_eq_decide.2 ⟨fun h=>⟨n1,n2,h⟩,fun h=>h.2.2⟩),rfl⟩,yJ.out⟩
  ·refine zaQ ?_
   repeat (refine zM ?_)
   exact ⟨[_],_,_,⟨rfl,trivial⟩,⟨congrArg Value.bool (decide_eq_false (fun h=>n2 h.2.1)).symm,rfl⟩,yJ.out⟩
 ·refine zaQ ?_
  repeat (refine zM ?_)
  exact ⟨[_],_,_,⟨rfl,trivial⟩,⟨congrArg Value.bool (decide_eq_false (fun h=>n1 h.1)).symm,rfl⟩,yJ.out⟩
theorem told2_spec (Y:Hp) (p q b5:Nat) {cp cq:Array Value} {tp tq:TypeId} (hp:∃ R,Y=pt p (.cells cp tp (0,0))+R) (hq:∃ R,Y=pt q (.cells cq tq (0,0))+R) (hb:At w0 Y b5 0 [pB q]) :
  Spec Tryz.prog w0 113 [pB p,pB b5] Y (fun v h'=>v=.bool (decide (p=q))∧Y=h'):=by
 refine zN Tryz.func113 M Tryz.ntmps113 Tryz.results113 M fun fr=>?_
 repeat (first|refine zF ?_|refine zB ?_|refine zE ?_|refine zK M M M ?_|refine L_at M (by assumption) M M M M ?_)
 have hp':∃ R,Y+fr=pt p (.cells cp tp (0,0))+R:=by obtain ⟨R,e⟩:=hp; exact ⟨R+fr,by rw [e]; ac_rfl⟩
 have hq':∃ R,Y+fr=pt q (.cells cq tq (0,0))+R:=by obtain ⟨R,e⟩:=hq; exact ⟨R+fr,by rw [e]; ac_rfl⟩
 refine L_eff M M (ev_eql_ptr M M M hp' hq') ?_
 rintro _ _ ⟨rfl,rfl⟩
 refine zaE ?_
 exact ⟨[_],Y,_,⟨rfl,trivial⟩,⟨rfl,rfl⟩,yJ.out⟩
theorem telling_spec (hS:CliT w0 X b tb c S) (hZ:Sz n c) (hn:n+400≤100000000) (hF:Fine c) (hA:Any c) (m:Msg) (ve:Value) (ad:Option Addr) (cd:Nat) (hd:RdL w0 X (.slice ad m.data.length cd) m.data) (hdl:m.data.length≤1000000) (hsrc:0≤m.src) :
  Spec Tryz.prog w0 54 [pB b,.agg (cellsM m ve (.slice ad m.data.length cd)).toArray] (X+S) (fun r h'=>After w0 X b tb (toldF c m) h'):=by
 refine Spec.given fun hst=>?_
 obtain ⟨⟨vmem,vr0,vsets,vmr,vg,ve2,vd,vrq,vop,vow,vw,vco,vou,van⟩,ps,hG,hE,hD,hR,hT,hK,hO,P,rfl⟩:=id hS
 obtain ⟨r1,r2,r3,r4,rfl⟩:=P.reqs
 obtain ⟨bk,capg,spg,hvg,hGe,hgset⟩:=P.guess.openI (by intro e; have:=hF.guess; rw [e] at this; cases this)
 simp only at hvg
 subst hvg
 subst hGe
 have hlp:=r4.length
 have hnd:((zipG ps c.reqs).map (·.blk)).Nodup:=by
  obtain ⟨w,fr,hst⟩:=hst
  refine (GrsAt.of r4).nodup (R:=X+(cliC b (clL c ⟨vmem,vr0,vsets,vmr,.slice (some ⟨bk,0,none⟩) c.guess.length capg,ve2,vd,vrq,vop,vow,vw,vco,vou,van⟩)+(pt bk (.cells (c.guess.map (Value.int .i64)++spg).toArray 3 (0,0))+(hE+(hD+(r1+(hT+(hK+hO)))))))+fr) (w:=w) (cast (congrArg (St w0 w) ?_) hst)
  generalize cliC b (clL c ⟨vmem,vr0,vsets,vmr,.slice (some ⟨bk,0,none⟩) c.guess.length capg,ve2,vd,vrq,vop,vow,vw,vco,vou,van⟩)=Z
  ac_rfl
 clear hst
 have hgr:∀ r∈c.reqs,r.group<5:=fun r hr=>(hF.reqs (core r) (List.mem_map.2 ⟨r,hr,rfl⟩)).1
 have hrl:=hZ.bd.reqs
 have hfirst:=firsts_spec w0 X b tb c _ ps r1 r2 _ hE hD hT hK hO P r3 r4 (by omega) hgr
 have hfl:=firstF_len c.reqs
 have hll:(firstP ps c.reqs).length=(firstF c.reqs).length:=by simp [firstP]
 refine zN Tryz.func54 M Tryz.ntmps54 Tryz.results54 M fun fr=>?_
 repeat (first|refine zF ?_|refine zB ?_|refine zE ?_|refine zK M M M ?_|refine L_box M (c:=[_,_,_,_,_,_,_,_,_,_,_,_,_,_,_,_,_]) M M M (fun _=>?_))
 rename_i b3
 refine zX M M (zQ M M M) hfirst ?_
 rintro vf _ ⟨hf,hof,rfl⟩
 repeat (refine L_clo M M M ?_)
 have hidx:=indexFuncG_spec w0 (r2+hf+pt b3 (.cells (cellsM m ve (.slice ad m.data.length cd)).toArray 55 (0,0))) vf (firstG ps c.reqs) 110 [pB b3] (fun x=>isTold m x.rq) ((hof.toG (Y:=0) (firstG ps c.reqs) (ptr_firstG ps c.reqs)).rd) (by simp only [firstG,List.length_map]; omega) (fun Y x e hx he=>by
  obtain ⟨i,hi,rfl⟩:=List.mem_map.1 hx
  have hil:=firstF_lt hi
  obtain ⟨p',g1,g2,e1,e2,e3,-,-⟩:=r4.get (List.getElem?_eq_getElem hil)
  have hbk:(ps.getD i ⟨0⟩).blk=p'.blk:=by rw [List.getD_eq_getElem?_getD,e1]; rfl
  have hrq:c.reqs.getD i default=c.reqs[i]:=by rw [List.getD_eq_getElem?_getD,List.getElem?_eq_getElem hil]; rfl
  simp only [hbk,hrq]
  exact Spec.frameL (R:=g2+hf) (by rw [e3]; ac_rfl) (told1_spec w0 X b tb c.reqs[i] p'.blk b3 g1 m ve _ e2))
 refine zX M M (zQ M M M) hidx ?_
 rintro _ _ ⟨rfl,rfl⟩
 clear hidx
 rcases told_idx ps c m with ⟨hi1,hi2⟩|⟨j,hj,hi1,hi2⟩
 ·rw [hi1]
  refine zaC ?_
  refine L_yes M M (pv_lss M M) (by decide) ?_
  repeat (first|refine zE ?_|refine zM ?_|refine zJ M ?_)
  have:toldF c m=c:=by unfold toldF; rw [hi2]
  rw [this]
  exact ⟨[],_,_,trivial,After.now hS,yJ.out⟩
 rw [hi1]
 refine zaC ?_
 refine L_no M M (pv_lss M M) (by omega) ?_
 refine zaV ?_
 refine zX M M (zQ M M M) hfirst ?_
 clear hfirst
 rintro vf2 _ ⟨hf2,hof2,rfl⟩
 obtain ⟨af,cf,rfl⟩:=hof2.shape
 have hrd2:RdL w0 hf2 (.slice af (firstP ps c.reqs).length cf) (firstP ps c.reqs):=hof2.rdh
 have hjp:j<(firstP ps c.reqs).length:=by omega
 obtain ⟨bq,oq,rfl,e,rfl,hat⟩:=hrd2.at hjp
 have hil:=firstF_lt (List.getElem_mem hj)
 obtain ⟨p',g1,g2,e1,e2,rfl,-,e5⟩:=r4.get (List.getElem?_eq_getElem hil)
 have hpj:(firstP ps c.reqs)[j]=p':=by
  simp only [firstP,List.getElem_map,List.getD_eq_getElem?_getD]
  rw [e1]; rfl
 rw [hpj] at hat
 have hfit:=heard_fit hA hF (List.getElem_mem hil)
 have hcore:=hF.reqs (core c.reqs[(firstF c.reqs)[j]]) (List.mem_map.2 ⟨_,List.getElem_mem hil,rfl⟩)
 have hosz:=hZ.bd.ops (core c.reqs[(firstF c.reqs)[j]]) (List.mem_map.2 ⟨_,List.getElem_mem hil,rfl⟩)
 have hri:c.reqs[(firstF c.reqs)[j]]?=some c.reqs[(firstF c.reqs)[j]]:=List.getElem?_eq_getElem hil
 have hzi:(zipG ps c.reqs)[(firstF c.reqs)[j]]?=some ⟨p'.blk,c.reqs[(firstF c.reqs)[j]]⟩:=by
  unfold zipG
  rw [List.getElem?_map,(List.getElem?_zip_eq_some (z:=(p',c.reqs[(firstF c.reqs)[j]]))).2 ⟨e1,hri⟩]; rfl
 generalize (firstF c.reqs)[j]=i at *
 generalize c.reqs[i]=r at *
 have hT0:toldF c m=if m.ok=false then (if 1≤m.index∧m.index≤c.nodes∧m.index≠m.src then sendF (guessF c r.group m.index) i else c)
   else if (getRes m.data).2≠0 then c else heardF { (if m.src≤c.nodes then guessF c r.group m.src else c) with reqs:=(if m.src≤c.nodes then guessF c r.group m.src else c).reqs.eraseIdx i } r.heard (getRes m.data).1:=by
  unfold toldF; rw [hi2]; simp only; rw [hri]
 rw [hT0]
 clear hT0 hi1 hi2
 have hg5:r.group<c.guess.length:=by rw [hF.guess]; exact hcore.1
 have e2':=e2
 obtain ⟨b1,d1,b2,d2,b4,d4,b6,d6,hv,rfl,q1,q2,q3,q4,hh⟩:=e2
 repeat (first|refine zF ?_|refine zB ?_|refine zE ?_|refine zK M M M ?_|refine zY M M M M M ?_|refine L_ld M M M M M ?_|refine L_st M M M (c':=[_]) M M M M ?_|refine L_idx M M (by omega) M M ?_|refine L_at M (by assumption) M M M M ?_|refine L_alloc (c:=[_]) M M M (fun _=>?_))
 rename_i b5
 refine hold_cond (t:=!m.ok) M (fun hok=>?_) (fun hok=>?_)
 ·rw [if_pos (by simpa using hok)]
  repeat (refine zF ?_)
  refine yB [] [0,1,2,3,4,5,6,7,8,9,10,11,12,13,14,15,16,17,18,19] (by kernel_rfl) M (by kernel_rfl) (by kernel_rfl) ?_
  refine zbR ?_
  refine W_dec M M M M (pv_geq M M) (fun n1=>?_) (fun n1=>?_)
  ·refine zaF ?_
   refine W_dec M M M M (pv_leq M M) (fun n2=>?_) (fun n2=>?_)
   ·refine zaF ?_
    refine W_dec M M M M (pv_neq M M) (fun n3=>?_) (fun n3=>?_)
    ·rw [if_pos ⟨by omega,by omega,n3⟩]
     refine zaD ?_
     repeat (first|refine zF ?_|refine zJ M ?_)
     refine yB [11] [0,1,2,3,4,5,6,7,8,9,10,11] (by kernel_rfl) M (by kernel_rfl) (by kernel_rfl) ?_
     refine zfB ?_
     refine W_eff M M M M (ev_store (c:=c.guess.map (Value.int .i64)++spg) M M M M (cells_getI c.guess spg hg5) (cells_setI c.guess spg hg5 m.index)) (Kept.all _) ?_
     rintro _ _ rfl
     refine ⟨zka,?_⟩
     repeat (refine yI ?_)
     repeat (first|refine zB ?_|refine zK M M M ?_|refine L_ld M M M M M ?_)
     have hPg:Parts w0 X b { c with guess:=c.guess.set r.group m.index } ⟨vmem,vr0,vsets,vmr,.slice (some ⟨bk,0,none⟩) c.guess.length capg,ve2,vd,vrq,vop,vow,vw,vco,vou,van⟩ tb ps _ hE hD _ hT hK hO :=
      Parts.mk P.mem P.rngs0 P.sets P.mr (hgset (c.guess.set r.group m.index) (by simp)) P.ended P.dbts P.reqs P.opn P.own P.txn P.waits P.coord P.out P.ansd
     refine zX M M (zQ M M M) (sending_spec w0 X b tb { c with guess:=c.guess.set r.group m.index } _ ps ⟨_,_,hE,hD,_,hT,hK,hO,hPg,rfl⟩ (by have:=hZ.bd.out; show c.out.length≤_; omega) i r hri p' e1 hcore.1 (by show (c.guess.set r.group m.index).length=5; rw [List.length_set]; exact hF.guess) hosz) ?_
     rintro _ _ hA2
     refine zbI ?_
     exact ⟨[],_,_,trivial,hA2.after,yJ.out⟩
    ·rw [if_neg (fun h=>n3 h.2.2)]
     refine zaD ?_
     repeat (first|refine zP ?_|refine zM ?_|refine zI M ?_)
     exact ⟨[],_,_,trivial,After.now hS,yJ.out⟩
   ·rw [if_neg (fun h=>n2 (by omega))]
    refine zaQ ?_
    repeat (first|refine zP ?_|refine zM ?_|refine zI M ?_)
    exact ⟨[],_,_,trivial,After.now hS,yJ.out⟩
  ·rw [if_neg (fun h=>n1 (by omega))]
   refine zaQ ?_
   repeat (first|refine zP ?_|refine zM ?_|refine zI M ?_)
   exact ⟨[],_,_,trivial,After.now hS,yJ.out⟩
 rw [if_neg (by simpa using hok)]
 repeat (first|refine zF ?_|refine zB ?_|refine zY M M M M M ?_|refine L_ld M M M M M ?_|refine zP ?_)
 refine zX M M (zQ M M M) (getRes_spec w0 X _ m.data hd (by omega)) ?_
 rintro _ _ ⟨ar,cr,G,rfl,hrr,rfl⟩
 have hrl2:=getRes_len m.data
 generalize getRes m.data=gr at *
 obtain ⟨⟨rc,rd⟩,re⟩:=gr
 simp only at hrr hrl2 ⊢
 repeat (first|refine zF ?_|refine zB ?_|refine zE ?_|refine zK M M M ?_|refine L_stA M (vs:=[_,_]) M M M M (c':=[_,_]) M M ?_|refine L_alloc (c:=[_,_]) M M M (fun _=>?_))
 rename_i b7
 refine yF M M (pv_neq M M) (fun h=>?_) (fun h=>?_)
 ·rw [if_pos h]
  repeat (first|refine zE ?_|refine zM ?_|refine zJ M ?_)
  exact ⟨[],_,_,trivial,After.now hS,yJ.out⟩
 rw [if_neg h]
 refine zbP ?_
 refine yB [] [0,1,2,3,4,5,6,7] (by kernel_rfl) M (by kernel_rfl) (by kernel_rfl) ?_
 refine zaF ?_
 refine yD M M M M (pv_leq M M) ?_
 repeat (refine yI ?_)
 skip
 refine hold_join (fun g' L'=>∃ (gs:List Int) (R:Hp),(if m.src≤c.nodes then guessF c r.group m.src else c)={ c with guess:=gs }∧gs.length=c.guess.length∧(∀ g∈gs,0≤g∧g≤1000)∧Sub g' [(0,pB b),(5,pB b5),(6,pB b7)] ∧
  L'=(cliC b (clL c ⟨vmem,vr0,vsets,vmr,.slice (some ⟨bk,0,none⟩) c.guess.length capg,ve2,vd,vrq,vop,vow,vw,vco,vou,van⟩)+(pt b7 (.cells [.int .i64 rc,.slice ar rd.length cr].toArray 182 (0,0))+(pt b5 (.cells [pB p'.blk].toArray 142 (0,0))+(X+G+(pt bk (.cells (gs.map (Value.int .i64)++spg).toArray 3 (0,0))+(hE+(hD+(r1+(reqC p'.blk (reqL r (.slice b1 r.o.parts.length d1) (.slice b2 r.o.reads.length d2) (.slice b4 r.o.writes.length d4) (.slice b6 r.o.data.length d6) hv)+g2)+(hT+(hK+hO))))))+fr))))+R) ?_ ?_
 ·refine hold_cond_d M (fun h2=>?_) (fun h2=>?_)
  ·rw [if_pos h2]
   skip
   refine yB [11] [0,1,2,3,4,5,6,7,8,9,10,11] (by kernel_rfl) M (by kernel_rfl) (by kernel_rfl) ?_
   refine zfB ?_
   refine W_eff M M M M (ev_store (c:=c.guess.map (Value.int .i64)++spg) M M M M (cells_getI c.guess spg hg5) (cells_setI c.guess spg hg5 m.src)) (Kept.all _) ?_
   rintro _ _ rfl
   refine ⟨zka,?_⟩
   repeat (refine yI ?_)
   skip
   have hnn:=hZ.num.2.2.2.2.1
   refine ⟨c.guess.set r.group m.src,_,rfl,by simp,fun g hg=>?_,zsb,yJ.out⟩
   rcases List.mem_or_eq_of_mem_set hg with hg|rfl
   ·exact hZ.num.2.2.2.2.2 g hg
   ·omega
  ·rw [if_neg h2]
   repeat (refine zP ?_)
   exact ⟨c.guess,_,rfl,rfl,hZ.num.2.2.2.2.2,zsb,yJ.out⟩
 ·rintro g' _ ⟨gs,R,hif,hgl,hgz,hsub,rfl⟩
  refine hold_env hsub ?_
  clear hsub g'
  rw [hif]
  have hdel:=deleteFuncG_spec w0 (reqC p'.blk (reqL r (.slice b1 r.o.parts.length d1) (.slice b2 r.o.reads.length d2) (.slice b4 r.o.writes.length d4) (.slice b6 r.o.data.length d6) hv)+g2+pt b5 (.cells [pB p'.blk].toArray 142 (0,0))) (zipG ps c.reqs) vrq r1 113 [pB b5] (fun x=>decide (x.blk=p'.blk)) (r3.toG _ (ptr_zip hlp)) (by simp only [zipG,List.length_map,List.length_zip]; omega)
   (fun Y x e hx he=>by
    obtain ⟨k1,k2,f1,f2⟩:=(GrsAt.of r4).mem hx
    obtain ⟨u1,u2,u3,u4,u5,u6,u7,u8,u9,rfl,-⟩:=f1
    exact told2_spec w0 _ x.blk p'.blk b5 ⟨_,by rw [f2,hadd_assoc]⟩ ⟨_,by rw [hadd_assoc]⟩ at_box)
  refine zdR ?_
  refine zX M M (zQ M M M) hdel ?_
  rintro v8 _ ⟨h8,ho8,rfl⟩
  rw [filter_erase hnd hzi] at ho8
  have hpe:ptrG ((zipG ps c.reqs).eraseIdx i)=ps.eraseIdx i:=by
   unfold ptrG
   rw [map_erase]
   exact congrArg (fun l=>l.eraseIdx i) (ptr_zip hlp)
  have ho9:=ho8.ofG (Y:=0)
  rw [hpe] at ho9
  obtain ⟨a9,c9,rfl⟩:=ho9.shape
  have hP3:Parts w0 (X+G) b { c with guess:=gs,reqs:=c.reqs.eraseIdx i } ⟨vmem,vr0,vsets,vmr,.slice (some ⟨bk,0,none⟩) c.guess.length capg,ve2,vd,.slice a9 (ps.eraseIdx i).length c9,vop,vow,vw,vco,vou,van⟩ tb (ps.eraseIdx i) (pt bk (.cells (gs.map (Value.int .i64)++spg).toArray 3 (0,0))) hE hD (h8+g2) hT hK hO:=by
   have P2:=P.mono (L:=X+G) (R:=G) M
   exact Parts.mk P2.mem P2.rngs0 P2.sets P2.mr (hgset gs hgl) P2.ended P2.dbts (ReqsAt.intro ho9 (e5.mono M)) P2.opn P2.own P2.txn P2.waits P2.coord P2.out P2.ansd
  have hZ3:Sz n { c with guess:=gs,reqs:=c.reqs.eraseIdx i }:=(hZ.guessed hgz).erase i
  have hF3:Fine { c with guess:=gs,reqs:=c.reqs.eraseIdx i }:=⟨by show gs.length=5; rw [hgl]; exact hF.guess,fun q hq=>by obtain ⟨q',hq',rfl⟩:=List.mem_map.1 hq; exact hF.reqs _ (List.mem_map.2 ⟨q',List.mem_of_mem_eraseIdx hq',rfl⟩),hF.rngs,hF.parts,hF.asked,hF.doubts,hF.coord,hF.nmem⟩
  have hfit3:HearOk { c with guess:=gs,reqs:=c.reqs.eraseIdx i } r.heard:=by
   cases hrh:r.heard<;>rw [hrh] at hfit<;>first|trivial|exact hfit|(intro w hw; have:=hfit w hw; cases w<;>exact this)
  obtain ⟨k,caps,hfk,rfl,hrun⟩:=heardRun_spec w0 (X+G) b tb { c with guess:=gs,reqs:=c.reqs.eraseIdx i } _ n ⟨rc,rd⟩ ar cr ⟨_,_,_,hE,hD,_,hT,hK,hO,hP3,rfl⟩ hZ3 (by omega) hF3 (hrr.mono (hadd_comm _ _)) (by simp only; omega) r.heard hv (hh.mono rfl) hfit3 hcore.2.1
  refine zeW ?_
  refine yB [5] [0,1,2,3,4,5] (by kernel_rfl) M (by kernel_rfl) (by kernel_rfl) ?_
  refine zfC ?_
  refine W_call M M M M (zQ M M (by simp<;>rfl)) hrun (.drop (by kernel_rfl) (.drop (by kernel_rfl) (.drop (by kernel_rfl) .nil))) ?_
  rintro _ _ hA2
  refine ⟨trivial,?_⟩
  repeat (refine yI ?_)
  skip
  exact ⟨[],_,_,trivial,hA2.trans,yJ.out⟩
end
theorem own_lit {w0:World} {b:Nat} (l:List Int) (n:Nat) (hn:l.length=n) (hl:l.length≤1000):OwL w0 0 l (.slice (some ⟨b,0,none⟩) n n) (pt b (.cells (l.map (Value.int .i64)).toArray 3 (0,0))):=by
 refine owL_ints.2 ?_
 subst hn
 have:=isRow_block (E:=3) (b:=b) (cap:=l.length) (spare:=[]) (size:=1) (enc1_len1 l) (by rw [enc1_length]; exact Nat.le_refl _) (by unfold maxLen; omega) (by rw [enc1_length]; simp)
 rw [flat1,enc1_length,List.append_nil] at this
 exact this
def hasF (k:Int):List Int :=
 if k=1 then [0,1,2,3] else
 if k=2 then [0,1,11] else
 if k=3 then [0,1,2,3,4,5,12] else
 if k=4 then [0,1,11,2,5] else
 if k=5 then [0,1,2,3,5,13] else
 if k=6 then [0,6,13] else
 if k=7 then [0,6,11,2,13] else
 if k=8 then [7,8,9] else
 if k=9 then [7,8,9,11,2,10] else if k=11 then [7,8,9,11,2,10] else if k=10 then [7,8,9,10] else []
def numsF (m:Msg):List Int:=[m.group,m.term,m.index,m.prev,m.commit,m.round,m.seq,m.txn,m.part,m.ballot,m.value]
def rngF (k n:Int):Bool:=if k=0 then decide (0≤n∧n≤4) else if k=7 then decide (1≤n∧n≤1099511627776) else if k=8 then decide (1≤n∧n≤4) else if k=10 then decide (0≤n∧n≤2) else decide (0≤n∧n≤1099511627776)
structure MayP (m:Msg):Prop where
 ents:m.entries=[]
 src:1≤m.src∧m.src≤199
 dst:1≤m.dst∧m.dst≤199
 rng:∀ k:Nat,k<11→(k:Int)∈hasF m.kind→rngF k ((numsF m).getD k 0)=true
structure GoodP (m:Msg):Prop where
 has:hasF m.kind≠[]
 nums:∀ k:Nat,k<11→(numsF m).getD k 0≠0→(k:Int)∈hasF m.kind
 ok:m.ok=true→11∈hasF m.kind
 data:m.data=[]
 may:MayP m
theorem has12_spec (w0:World) (X:Hp) (k:Int):Spec Tryz.prog w0 130 [.int .i64 k] X (fun r h'=>∃ (l:List Int) (h:Hp),OwL w0 0 l r h∧l.length≤7∧(∀ x∈l,0≤x∧x≤13)∧l=hasF k∧X+h=h'):=by
 refine zN Tryz.func130 M Tryz.ntmps130 Tryz.results130 M fun fr=>?_
 refine zaM ?_
 refine yF M M (pv_eql M M) (fun n0=>?_) (fun n0=>?_)
 ·repeat (first|refine zF ?_|refine zB ?_|refine zE ?_|refine zK M M M ?_|refine zM ?_|refine zJ M ?_|refine L_bs (vs:=[_,_,_,_]) (cells:=[_,_,_,_]) M M M M M M (fun _=>?_))
  rename_i b1
  have ho:=own_lit (b:=b1) (w0:=w0) [0,1,2,3] 4 rfl (by decide)
  simp only [List.map_cons,List.map_nil] at ho
  exact ⟨[_],X+_,_,⟨rfl,trivial⟩,⟨_,_,ho,by decide,by decide,by rw [n0]; decide,rfl⟩,yJ.out⟩
 refine zaA ?_
 refine yF M M (pv_eql M M) (fun n1=>?_) (fun n1=>?_)
 ·repeat (first|refine zF ?_|refine zB ?_|refine zE ?_|refine zK M M M ?_|refine zM ?_|refine zJ M ?_|refine L_bs (vs:=[_,_,_]) (cells:=[_,_,_]) M M M M M M (fun _=>?_))
  rename_i b1
  have ho:=own_lit (b:=b1) (w0:=w0) [0,1,11] 3 rfl (by decide)
  simp only [List.map_cons,List.map_nil] at ho
  exact ⟨[_],X+_,_,⟨rfl,trivial⟩,⟨_,_,ho,by decide,by decide,by rw [n1]; decide,rfl⟩,yJ.out⟩
 refine zaA ?_
 refine yF M M (pv_eql M M) (fun n2=>?_) (fun n2=>?_)
 ·repeat (first|refine zF ?_|refine zB ?_|refine zE ?_|refine zK M M M ?_|refine zM ?_|refine zJ M ?_|refine L_bs (vs:=[_,_,_,_,_,_,_]) (cells:=[_,_,_,_,_,_,_]) M M M M M M (fun _=>?_))
  rename_i b1
  have ho:=own_lit (b:=b1) (w0:=w0) [0,1,2,3,4,5,12] 7 rfl (by decide)
  simp only [List.map_cons,List.map_nil] at ho
  exact ⟨[_],X+_,_,⟨rfl,trivial⟩,⟨_,_,ho,by decide,by decide,by rw [n2]; decide,rfl⟩,yJ.out⟩
 refine zaA ?_
 refine yF M M (pv_eql M M) (fun n3=>?_) (fun n3=>?_)
 ·repeat (first|refine zF ?_|refine zB ?_|refine zE ?_|refine zK M M M ?_|refine zM ?_|refine zJ M ?_|refine L_bs (vs:=[_,_,_,_,_]) (cells:=[_,_,_,_,_]) M M M M M M (fun _=>?_))
  rename_i b1
  have ho:=own_lit (b:=b1) (w0:=w0) [0,1,11,2,5] 5 rfl (by decide)
  simp only [List.map_cons,List.map_nil] at ho
  exact ⟨[_],X+_,_,⟨rfl,trivial⟩,⟨_,_,ho,by decide,by decide,by rw [n3]; decide,rfl⟩,yJ.out⟩
 refine zaA ?_
 refine yF M M (pv_eql M M) (fun n4=>?_) (fun n4=>?_)
 ·repeat (first|refine zF ?_|refine zB ?_|refine zE ?_|refine zK M M M ?_|refine zM ?_|refine zJ M ?_|refine L_bs (vs:=[_,_,_,_,_,_]) (cells:=[_,_,_,_,_,_]) M M M M M M (fun _=>?_))
  rename_i b1
  have ho:=own_lit (b:=b1) (w0:=w0) [0,1,2,3,5,13] 6 rfl (by decide)
  simp only [List.map_cons,List.map_nil] at ho
  exact ⟨[_],X+_,_,⟨rfl,trivial⟩,⟨_,_,ho,by decide,by decide,by rw [n4]; decide,rfl⟩,yJ.out⟩
 refine zaA ?_
 refine yF M M (pv_eql M M) (fun n5=>?_) (fun n5=>?_)
 ·repeat (first|refine zF ?_|refine zB ?_|refine zE ?_|refine zK M M M ?_|refine zM ?_|refine zJ M ?_|refine L_bs (vs:=[_,_,_]) (cells:=[_,_,_]) M M M M M M (fun _=>?_))
  rename_i b1
  have ho:=own_lit (b:=b1) (w0:=w0) [0,6,13] 3 rfl (by decide)
  simp only [List.map_cons,List.map_nil] at ho
  exact ⟨[_],X+_,_,⟨rfl,trivial⟩,⟨_,_,ho,by decide,by decide,by rw [n5]; decide,rfl⟩,yJ.out⟩
 refine zaA ?_
 refine yF M M (pv_eql M M) (fun n6=>?_) (fun n6=>?_)
 ·repeat (first|refine zF ?_|refine zB ?_|refine zE ?_|refine zK M M M ?_|refine zM ?_|refine zJ M ?_|refine L_bs (vs:=[_,_,_,_,_]) (cells:=[_,_,_,_,_]) M M M M M M (fun _=>?_))
  rename_i b1
  have ho:=own_lit (b:=b1) (w0:=w0) [0,6,11,2,13] 5 rfl (by decide)
  simp only [List.map_cons,List.map_nil] at ho
  exact ⟨[_],X+_,_,⟨rfl,trivial⟩,⟨_,_,ho,by decide,by decide,by rw [n6]; decide,rfl⟩,yJ.out⟩
 refine zaA ?_
 refine yF M M (pv_eql M M) (fun n7=>?_) (fun n7=>?_)
 ·repeat (first|refine zF ?_|refine zB ?_|refine zE ?_|refine zK M M M ?_|refine zM ?_|refine zJ M ?_|refine L_bs (vs:=[_,_,_]) (cells:=[_,_,_]) M M M M M M (fun _=>?_))
  rename_i b1
  have ho:=own_lit (b:=b1) (w0:=w0) [7,8,9] 3 rfl (by decide)
  simp only [List.map_cons,List.map_nil] at ho
  exact ⟨[_],X+_,_,⟨rfl,trivial⟩,⟨_,_,ho,by decide,by decide,by rw [n7]; decide,rfl⟩,yJ.out⟩
 refine zaA ?_
 refine yF M M (pv_eql M M) (fun m1=>?_) (fun m1=>?_)
 ·repeat (first|refine zF ?_|refine zB ?_|refine zE ?_|refine zK M M M ?_|refine zP ?_|refine zM ?_|refine zJ M ?_|refine L_bs (vs:=[_,_,_,_,_,_]) (cells:=[_,_,_,_,_,_]) M M M M M M (fun _=>?_))
  rename_i b1
  have ho:=own_lit (b:=b1) (w0:=w0) [7,8,9,11,2,10] 6 rfl (by decide)
  simp only [List.map_cons,List.map_nil] at ho
  exact ⟨[_],X+_,_,⟨rfl,trivial⟩,⟨_,_,ho,by decide,by decide,by rw [m1]; decide,rfl⟩,yJ.out⟩
 refine zaG ?_
 refine yF M M (pv_eql M M) (fun m2=>?_) (fun m2=>?_)
 ·repeat (first|refine zF ?_|refine zB ?_|refine zE ?_|refine zK M M M ?_|refine zM ?_|refine zJ M ?_|refine L_bs (vs:=[_,_,_,_,_,_]) (cells:=[_,_,_,_,_,_]) M M M M M M (fun _=>?_))
  rename_i b1
  have ho:=own_lit (b:=b1) (w0:=w0) [7,8,9,11,2,10] 6 rfl (by decide)
  simp only [List.map_cons,List.map_nil] at ho
  exact ⟨[_],X+_,_,⟨rfl,trivial⟩,⟨_,_,ho,by decide,by decide,by rw [m2]; decide,rfl⟩,yJ.out⟩
 refine zaA ?_
 refine yF M M (pv_eql M M) (fun m3=>?_) (fun m3=>?_)
 ·repeat (first|refine zF ?_|refine zB ?_|refine zE ?_|refine zK M M M ?_|refine zM ?_|refine zJ M ?_|refine L_bs (vs:=[_,_,_,_]) (cells:=[_,_,_,_]) M M M M M M (fun _=>?_))
  rename_i b1
  have ho:=own_lit (b:=b1) (w0:=w0) [7,8,9,10] 4 rfl (by decide)
  simp only [List.map_cons,List.map_nil] at ho
  exact ⟨[_],X+_,_,⟨rfl,trivial⟩,⟨_,_,ho,by decide,by decide,by rw [m3]; decide,rfl⟩,yJ.out⟩
 refine zbC ?_
 exact ⟨[_],X+0,_,⟨rfl,trivial⟩,⟨[],0,OwL.nil _ _,by decide,by decide,by unfold hasF; rw [if_neg n0,if_neg n1,if_neg n2,if_neg n3,if_neg n4,if_neg n5,if_neg n6,if_neg n7,if_neg m1,if_neg m2,if_neg m3],rfl⟩,by rw [yA]; exact yJ.out⟩
theorem in12_spec (w0:World) (X:Hp) (l:List Int) (a:Option Addr) (c:Nat) (k:Int) (hv:RdL w0 X (.slice a l.length c) l) (hl:l.length≤1000) :
  Spec Tryz.prog w0 214 [.slice a l.length c,.int .i64 k] X (fun r h'=>r=.bool (decide (k∈l))∧X=h'):=by
 refine zN Tryz.func214 M Tryz.ntmps214 Tryz.results214 M fun fr=>?_
 refine zaM ?_
 refine hold_count l.length (fun i g L=>∃ R:Hp,g=[(0,.slice a l.length c),(1,.int .i64 k),(5,.int .i64 i)]∧k∉l.take i∧L=X+fr+R) _ ⟨0,rfl,by simp,(yA _).symm⟩ zsb ?_
 rintro i g L hi ⟨R,rfl,hp,rfl⟩
 refine zaP ?_
 refine yF M M (pv_lss M M) (fun n1=>?_) (fun n1=>?_)
 ·have hx:i<l.length:=by omega
  obtain ⟨b2,o2,rfl,e,rfl,hat⟩:=hv.at hx
  refine zaT ?_
  refine yF M M (pv_eql M M) (fun n2=>?_) (fun n2=>?_)
  ·refine zaB ?_
   exact ⟨[_],X,_,⟨rfl,trivial⟩,⟨congrArg Value.bool (decide_eq_true (by rw [← n2]; exact List.getElem_mem hx)).symm,rfl⟩,yJ.out⟩
  ·refine zaJ ?_
   refine ⟨hx,_,zsb,_,rfl,?_,yJ.out⟩
   rw [List.take_succ_eq_append_getElem hx,List.mem_append,List.mem_singleton]
   rintro (h|h)
   ·exact hp h
   ·exact n2 h.symm
 ·rw [List.take_of_length_le (by omega)] at hp
  refine zaK ?_
  exact ⟨[_],X,_,⟨rfl,trivial⟩,⟨congrArg Value.bool (decide_eq_false hp).symm,rfl⟩,yJ.out⟩
theorem numbers12_spec (w0:World) (X:Hp) (m:Msg) (ve vd:Value) (h1:ve.oneCell'=true) (h2:vd.oneCell'=true) :
  Spec Tryz.prog w0 131 [.agg (cellsM m ve vd).toArray] X (fun r h'=>∃ (l:List Int) (h:Hp),OwL w0 0 l r h∧l=numsF m∧X+h=h'):=by
 refine zN Tryz.func131 M Tryz.ntmps131 Tryz.results131 M fun fr=>?_
 repeat (first|refine zF ?_|refine zB ?_|refine zE ?_|refine zK M M M ?_|refine zY M M M M M ?_|refine L_ld M M M M M ?_|refine zM ?_|refine L_box M (c:=[_,_,_,_,_,_,_,_,_,_,_,_,_,_,_,_,_]) M M M (fun _=>?_)|refine L_bs (vs:=[_,_,_,_,_,_,_,_,_,_,_]) (cells:=[_,_,_,_,_,_,_,_,_,_,_]) M M M M M M (fun _=>?_))
 rename_i b1 b2
 have ho:=own_lit (b:=b2) (w0:=w0) [m.group,m.term,m.index,m.prev,m.commit,m.round,m.seq,m.txn,m.part,m.ballot,m.value] 11 rfl (by simp)
 simp only [List.map_cons,List.map_nil] at ho
 exact ⟨[_],X+_,_,⟨rfl,trivial⟩,⟨_,_,ho,rfl,rfl⟩,yJ.out⟩
theorem ranged12_spec (w0:World) (X:Hp) (k n:Int):Spec Tryz.prog w0 285 [.int .i64 k,.int .i64 n] X (fun r h'=>r=.bool (rngF k n)∧X=h'):=by
 refine zN Tryz.func285 M Tryz.ntmps285 Tryz.results285 M fun fr=>?_
 repeat' (first|refine zF ?_|refine zB ?_|refine zE ?_|refine zK M M M ?_|refine L_skip M M ?_|refine zP ?_|refine zM ?_|refine zJ M ?_|refine zI M ?_|refine yF M M (pv_leq M M) (fun _=>?_) (fun _=>?_)|refine yF M M (pv_geq M M) (fun _=>?_) (fun _=>?_)|refine yF M M (pv_eql M M) (fun _=>?_) (fun _=>?_)|exact ⟨[_],X,_,⟨rfl,trivial⟩,⟨congrArg Value.bool (by unfold rngF; repeat' split; all_goals first|exact (decide_eq_true (by omega)).symm|exact (decide_eq_false (by omega)).symm|(exfalso; omega)),rfl⟩,yJ.out⟩|done)
theorem may12_spec (w0:World) (X:Hp) (m:Msg) (ea da:Option Addr) (ec dc:Nat) (he:RdL w0 X (.slice ea m.entries.length ec) m.entries) (hel:m.entries.length≤1000) :
  Spec Tryz.prog w0 215 [.agg (cellsM m (.slice ea m.entries.length ec) (.slice da m.data.length dc)).toArray] X (fun r h'=>∃ q:Bool,r=.bool q∧(MayP m→q=true)∧X=h'):=by
 refine zN Tryz.func215 M Tryz.ntmps215 Tryz.results215 M fun fr=>?_
 repeat (first|refine zF ?_|refine zB ?_|refine zE ?_|refine zK M M M ?_|refine zY M M M M M ?_|refine L_ld M M M M M ?_|refine L_box M (c:=[_,_,_,_,_,_,_,_,_,_,_,_,_,_,_,_,_]) M M M (fun _=>?_))
 rename_i b1
 repeat' (first|refine zF ?_|refine zB ?_|refine zE ?_|refine zK M M M ?_|refine zY M M M M M ?_|refine L_ld M M M M M ?_|refine L_skip M M ?_|refine zP ?_|refine zM ?_|refine zJ M ?_|refine zI M ?_|refine L_ldA M (vs:=[_,_,_,_,_,_,_,_,_,_,_,_,_,_,_,_,_]) M M M M M ?_|refine yF M M (pv_lss M M) (fun _=>?_) (fun _=>?_)|refine yF M M (pv_gtr M M) (fun _=>?_) (fun _=>?_)|exact ⟨[_],X,_,⟨rfl,trivial⟩,⟨_,rfl,(fun hp=>by have h1:=hp.src; have h2:=hp.dst; exfalso; omega),rfl⟩,yJ.out⟩|done)
 refine zX M M (zQ M M M) (numbers12_spec w0 X m _ _ rfl M) ?_
 rintro v1 _ ⟨l,h1,ho1,hl1,rfl⟩
 have hl11:l.length=11:=by rw [hl1]; rfl
 obtain ⟨a1,c1,rfl⟩:=ho1.shape
 refine zbF ?_
 refine zX M M (zQ M M M) (has12_spec w0 X m.kind) ?_
 rintro v2 _ ⟨lh,h2,ho2,hl2,hl3,hl4,rfl⟩
 obtain ⟨a2,c2,rfl⟩:=ho2.shape
 refine zaM ?_
 refine hold_count l.length (fun k g L=>∃ R:Hp,g=[(1,pB b1),(3,.slice a1 l.length c1),(4,.slice a2 lh.length c2),(5,.int .i64 k)] ∧
  L=pt b1 (.cells (cellsM m (.slice ea m.entries.length ec) (.slice da m.data.length dc)).toArray 55 (0,0))+(X+h1+h2+fr)+R) _ ⟨_,rfl,yJ.out⟩ zsb ?_
 rintro k g L hk ⟨R,rfl,rfl⟩
 refine zaP ?_
 refine yF M M (pv_lss M M) (fun n1=>?_) (fun n1=>?_)
 ·have hx:k<l.length:=by omega
  refine zbB ?_
  refine zX M M (zQ M M M) (in12_spec w0 h2 lh a2 c2 k ho2.rdh (by omega)) ?_
  rintro _ _ ⟨rfl,rfl⟩
  cases hdk:decide ((k:Int)∈lh)
  ·refine zdQ ?_
   exact ⟨hx,_,zsb,_,rfl,yJ.out⟩
  ·obtain ⟨b3,o3,rfl,e,rfl,hat⟩:=ho1.rdh.at hx
   repeat (first|refine zK M M M ?_|refine L_idx M M (by omega) M M ?_|refine L_at M (by assumption) M M M M ?_)
   refine zX M M (zQ M M M) (ranged12_spec w0 X k l[k]) ?_
   rintro _ _ ⟨rfl,rfl⟩
   cases hq:rngF k l[k]
   ·refine zaB ?_
    refine ⟨[_],X,_,⟨rfl,trivial⟩,⟨false,rfl,fun hp=>?_,rfl⟩,yJ.out⟩
    have h3:=hp.rng k (by omega) (by rw [← hl4]; exact of_decide_eq_true hdk)
    subst hl1
    rw [List.getD_eq_getElem?_getD,List.getElem?_eq_getElem hx] at h3
    exact absurd h3 (by rw [show (some (numsF m)[k]).getD 0=(numsF m)[k] from rfl,hq]; decide)
   ·refine zaJ ?_
    exact ⟨hx,_,zsb,_,rfl,yJ.out⟩
 refine zcO ?_
 refine hold_count m.entries.length (fun k g L=>∃ R:Hp,g=[(1,pB b1),(6,.int .i64 k)] ∧
  L=pt b1 (.cells (cellsM m (.slice ea m.entries.length ec) (.slice da m.data.length dc)).toArray 55 (0,0))+(X+fr)+R) _ ⟨_,rfl,yJ.out⟩ zsb ?_
 rintro k g L hk ⟨R,rfl,rfl⟩
 refine zcU ?_
 refine yF M M (pv_lss M M) (fun n1=>?_) (fun n1=>?_)
 ·have hx:k<m.entries.length:=by omega
  obtain ⟨b3,o3,rfl,e,he1,hat⟩:=he.at hx
  obtain ⟨a4,c4,rfl,hrd⟩:=id he1
  repeat (first|refine zF ?_|refine zR ?_|refine zB ?_|refine zE ?_|refine zK M M M ?_|refine zY M M M M M ?_|refine L_ld M M M M M ?_|refine zP ?_|refine zJ M ?_|refine L_idx M M (by omega) M M ?_|refine L_atA M (by assumption) M M M M ?_|refine L_stA M (vs:=[_,_,_]) M M M M (c':=[_,_,_]) M M ?_|refine L_alloc (c:=[_,_,_]) M M M (fun _=>?_))
  repeat' (first|refine zF ?_|refine zB ?_|refine zE ?_|refine zK M M M ?_|refine zY M M M M M ?_|refine L_ld M M M M M ?_|refine L_skip M M ?_|refine zP ?_|refine zM ?_|refine zJ M ?_|refine zI M ?_|refine L_add M M (by omega) (by omega) M M ?_|refine yF M M (pv_lss M M) (fun _=>?_) (fun _=>?_)|refine yF M M (pv_gtr M M) (fun _=>?_) (fun _=>?_)|first|exact ⟨[_],X,_,⟨rfl,trivial⟩,⟨_,rfl,(fun hp=>absurd hx (by rw [hp.ents]; exact Nat.not_lt_zero _)),rfl⟩,yJ.out⟩|exact ⟨hx,_,zsb,_,rfl,yJ.out⟩|done)
 ·refine zaK ?_
  exact ⟨[_],X,_,⟨rfl,trivial⟩,⟨_,rfl,(fun _=>rfl),rfl⟩,yJ.out⟩
theorem zfD {G G' : Prop} (h : G') (f : Zh G'→G:=by intro h; (repeat (first|refine yH M M M M M ?_|refine yD M M M M (zZ M M M) ?_|refine W_load M M M M (yE M) (zG M (zS M)) ?_|refine yD M M M M (pv_len M) ?_|refine yD M M M M (pv_add M M (by omega) (by omega)) ?_)); exact h.o) : G:=f ⟨h⟩
theorem long12_spec (w0:World) (X:Hp) (m:Msg) (ea da:Option Addr) (ec dc:Nat) (he:RdL w0 X (.slice ea m.entries.length ec) m.entries) (hel:m.entries.length≤1000) (hed:∀ e∈m.entries,e.data.length≤20000) (hdl:m.data.length≤20000) :
  Spec Tryz.prog w0 216 [.agg (cellsM m (.slice ea m.entries.length ec) (.slice da m.data.length dc)).toArray] X (fun r h'=>∃ q:Bool,r=.bool q∧(m.entries=[]∧m.data=[]→q=false)∧X=h'):=by
 refine zN Tryz.func216 M Tryz.ntmps216 Tryz.results216 M fun fr=>?_
 repeat (first|refine zF ?_|refine zB ?_|refine zE ?_|refine zK M M M ?_|refine zY M M M M M ?_|refine L_ld M M M M M ?_|refine L_len M M M ?_|refine L_box M (c:=[_,_,_,_,_,_,_,_,_,_,_,_,_,_,_,_,_]) M M M (fun _=>?_))
 rename_i b1
 repeat' (first|refine zF ?_|refine zR ?_|refine zB ?_|refine zE ?_|refine zK M M M ?_|refine zY M M M M M ?_|refine L_ld M M M M M ?_|refine L_len M M M ?_|refine zP ?_|refine zI M ?_|refine L_no M M (pv_gtr M M) (by omega) ?_|done)
 refine hold_count m.entries.length (fun k g L=>∃ R:Hp,g=[(1,pB b1),(3,.int .i64 k)] ∧
  L=pt b1 (.cells (cellsM m (.slice ea m.entries.length ec) (.slice da m.data.length dc)).toArray 55 (0,0))+(X+fr)+R) _ ⟨0,rfl,by rw [yA]⟩ zsb ?_
 rintro k g L hk ⟨R,rfl,rfl⟩
 refine zcU ?_
 refine yF M M (pv_lss M M) (fun n1=>?_) (fun n1=>?_)
 ·have hx:k<m.entries.length:=by omega
  obtain ⟨b3,o3,rfl,e,he1,hat⟩:=he.at hx
  obtain ⟨a4,c4,rfl,hrd⟩:=id he1
  repeat (first|refine zF ?_|refine zR ?_|refine zB ?_|refine zE ?_|refine zK M M M ?_|refine zY M M M M M ?_|refine L_ld M M M M M ?_|refine L_len M M M ?_|refine zP ?_|refine zJ M ?_|refine L_idx M M (by omega) M M ?_|refine L_atf M (by assumption) M M M M ?_)
  refine yF M M (pv_gtr M M) (fun n2=>?_) (fun n2=>?_)
  ·refine zaB ?_
   exact ⟨[_],X,_,⟨rfl,trivial⟩,⟨_,rfl,(fun hp=>by have e1:m.entries.length=0:=(by rw [hp.1]; rfl); have e2:m.data.length=0:=(by rw [hp.2]; rfl); exfalso; omega),rfl⟩,yJ.out⟩
  ·refine zaJ ?_
   exact ⟨hx,_,zsb,_,rfl,yJ.out⟩
 refine zcO ?_
 refine hold_count m.entries.length (fun k g L=>∃ (n:Int) (R:Hp),g=[(1,pB b1),(4,.int .i64 n),(5,.int .i64 k)]∧0≤n∧n≤(k:Int)*100000 ∧
  L=pt b1 (.cells (cellsM m (.slice ea m.entries.length ec) (.slice da m.data.length dc)).toArray 55 (0,0))+(X+fr)+R) _ ⟨0,_,rfl,by omega,by omega,yJ.out⟩ zsb ?_
 rintro k g L hk ⟨n,R,rfl,hn0,hn1,rfl⟩
 refine zcU ?_
 refine yF M M (pv_lss M M) (fun n1=>?_) (fun n1=>?_)
 ·have hx:k<m.entries.length:=by omega
  have hdd:=hed _ (List.getElem_mem hx)
  obtain ⟨b3,o3,rfl,e,he1,hat⟩:=he.at hx
  obtain ⟨a4,c4,rfl,hrd⟩:=id he1
  repeat (first|refine zF ?_|refine zR ?_|refine zB ?_|refine zE ?_|refine zK M M M ?_|refine zY M M M M M ?_|refine L_ld M M M M M ?_|refine L_len M M M ?_|refine zP ?_|refine zJ M ?_|refine L_add M M (by omega) (by omega) M M ?_|refine L_idx M M (by omega) M M ?_|refine L_atf M (by assumption) M M M M ?_)
  exact ⟨hx,_,zsb,_,_,rfl,by omega,by omega,yJ.out⟩
 refine zbT ?_
 refine yB [7] [0,1,2,3,4,5,6,7,8,9,10,11,12,13] (by kernel_rfl) M (by kernel_rfl) (by kernel_rfl) ?_
 refine zfD ?_
 refine W_call M M M M (zQ M M M) (has12_spec w0 X m.kind) (Kept.all _) ?_
 rintro v2 _ ⟨lh,h2,ho2,hl2,hl3,hl4,rfl⟩
 obtain ⟨a2,c2,rfl⟩:=ho2.shape
 refine ⟨zka,?_⟩
 repeat (first|refine yD M M M M (pv_len M) ?_|refine yD M M M M (pv_add M M (by omega) (by omega)) ?_)
 refine yD M M M M (pv_mul M M (by omega) (by omega)) ?_
 repeat (refine yD M M M M (pv_add M M (by omega) (by omega)) ?_)
 refine yD M M M M (pv_gtr M M) ?_
 refine zaD ?_
 repeat (refine zM ?_)
 exact ⟨[_],X,_,⟨rfl,trivial⟩,⟨_,rfl,(fun hp=>by have e1:m.entries.length=0:=(by rw [hp.1]; rfl); have e2:m.data.length=0:=(by rw [hp.2]; rfl); exact decide_eq_false (by omega)),rfl⟩,yJ.out⟩
theorem zcE {G G' : Prop} (h : G') (f : Zh G'→G:=by intro h; (repeat (first|refine zE ?_|refine zK M M M ?_|refine L_skip M M ?_)); exact h.o) : G:=f ⟨h⟩
theorem zdU {G G' : Prop} (h : G') (f : Zh G'→G:=by intro h; (repeat (first|refine zK M M M ?_|refine zY M M M M M ?_|refine L_ld M M M M M ?_|refine L_len M M M ?_|refine L_skip M M ?_)); exact h.o) : G:=f ⟨h⟩
theorem refCheck12_spec (w0:World) (X:Hp) (m:Msg) (ea da:Option Addr) (ec dc:Nat) (he:RdL w0 X (.slice ea m.entries.length ec) m.entries) (hel:m.entries.length≤1000) (hed:∀ e∈m.entries,e.data.length≤20000) (hdl:m.data.length≤20000) :
  Spec Tryz.prog w0 128 [.agg (cellsM m (.slice ea m.entries.length ec) (.slice da m.data.length dc)).toArray] X (fun r h'=>∃ e:Int,r=.int .i64 e∧(GoodP m→e=0)∧X=h'):=by
 have hmay:=may12_spec w0 X m ea da ec dc he hel
 have hlong:=long12_spec w0 X m ea da ec dc he hel hed hdl
 refine zN Tryz.func128 M Tryz.ntmps128 Tryz.results128 M fun fr=>?_
 repeat (first|refine zF ?_|refine zB ?_|refine zE ?_|refine zK M M M ?_|refine zY M M M M M ?_|refine L_ld M M M M M ?_|refine L_box M (c:=[_,_,_,_,_,_,_,_,_,_,_,_,_,_,_,_,_]) M M M (fun _=>?_))
 rename_i b1
 refine zX M M (zQ M M M) (has12_spec w0 X m.kind) ?_
 rintro v2 _ ⟨lh,h2,ho2,hl2,hl3,hl4,rfl⟩
 obtain ⟨a2,c2,rfl⟩:=ho2.shape
 refine zaX ?_
 refine yF M M (pv_eql M M) (fun n0=>?_) (fun n0=>?_)
 ·refine zaB ?_
  exact ⟨[_],X,_,⟨rfl,trivial⟩,⟨_,rfl,(fun hg=>absurd (List.eq_nil_of_length_eq_zero (by rw [← hl4]; omega)) hg.has),rfl⟩,yJ.out⟩
 repeat (first|refine zF ?_|refine zB ?_|refine zE ?_|refine zP ?_|refine zI M ?_|refine L_ldA M (vs:=[_,_,_,_,_,_,_,_,_,_,_,_,_,_,_,_,_]) M M M M M ?_)
 refine zX M M (zQ M M M) (numbers12_spec w0 X m _ _ rfl M) ?_
 rintro v1 _ ⟨l,h1,ho1,hl1,rfl⟩
 have hl11:l.length=11:=by rw [hl1]; rfl
 obtain ⟨a1,c1,rfl⟩:=ho1.shape
 refine zaM ?_
 refine hold_count l.length (fun k g L=>∃ R:Hp,g=[(1,pB b1),(3,.slice a2 lh.length c2),(4,.slice a1 l.length c1),(5,.int .i64 k)] ∧
  L=pt b1 (.cells (cellsM m (.slice ea m.entries.length ec) (.slice da m.data.length dc)).toArray 55 (0,0))+(X+h1+h2+fr)+R) _ ⟨_,rfl,yJ.out⟩ zsb ?_
 rintro k g L hk ⟨R,rfl,rfl⟩
 have hin:=fun (y:Int)=>in12_spec w0 h2 lh a2 c2 y ho2.rdh (by omega)
 refine zaP ?_
 refine yF M M (pv_lss M M) (fun n1=>?_) (fun n1=>?_)
 ·have hx:k<l.length:=by omega
  obtain ⟨b3,o3,rfl,e,rfl,hat⟩:=ho1.rdh.at hx
  refine zaT ?_
  refine yF M M (pv_neq M M) (fun n2=>?_) (fun n2=>?_)
  ·repeat (refine zK M M M ?_)
   refine zX M M (zQ M M M) (hin k) ?_
   rintro _ _ ⟨rfl,rfl⟩
   cases hdk:decide ((k:Int)∈lh)
   ·refine zaB ?_
    refine ⟨[_],X,_,⟨rfl,trivial⟩,⟨_,rfl,fun hg=>?_,rfl⟩,yJ.out⟩
    refine absurd (hg.nums k (by omega) ?_) (by rw [← hl4]; exact of_decide_eq_false hdk)
    subst hl1
    rw [List.getD_eq_getElem?_getD,List.getElem?_eq_getElem hx]
    exact n2
   ·refine zaJ ?_
    exact ⟨hx,_,zsb,_,rfl,yJ.out⟩
  ·refine zdQ ?_
   exact ⟨hx,_,zsb,_,rfl,yJ.out⟩
 refine zE ?_
 repeat (first|refine zF ?_|refine zI M ?_|refine yC ?_)
 refine hold_join (fun g' L'=>∃ (q:Bool) (R3:Hp),Sub g' [(1,pB b1),(59,.bool q)]∧(GoodP m→q=false)∧L'=pt b1 (.cells (cellsM m (.slice ea m.entries.length ec) (.slice da m.data.length dc)).toArray 55 (0,0))+(X+h1+h2+fr)+R3) ?_ ?_
 ·refine zdP ?_
  cases hok:m.ok
  ·refine zdU ?_
   refine yF M M (pv_gtr M M) (fun n12=>?_) (fun n12=>?_)
   ·repeat (refine zK M M M ?_)
    refine zX M M (zQ M M M) (hin 12) ?_
    rintro _ _ ⟨rfl,rfl⟩
    cases hd12:decide ((12:Int)∈lh)
    ·refine zcE ?_
     exact ⟨_,_,zsb,(fun hg=>by have e1:m.entries.length=0:=(by rw [hg.may.ents]; rfl); have e2:m.data.length=0:=(by rw [hg.data]; rfl); first|rfl|(exfalso; omega)|exact absurd (by rw [hl4]; exact hg.ok hok) (of_decide_eq_false hd11)),yJ.out⟩
    ·refine zbW ?_
     refine yF M M (pv_gtr M M) (fun n13=>?_) (fun n13=>?_)
     ·repeat (refine zK M M M ?_)
      refine zX M M (zQ M M M) (hin 13) ?_
      rintro _ _ ⟨rfl,rfl⟩
      cases hd13:decide ((13:Int)∈lh)
      ·refine zaR ?_
       exact ⟨_,_,zsb,(fun hg=>by have e1:m.entries.length=0:=(by rw [hg.may.ents]; rfl); have e2:m.data.length=0:=(by rw [hg.data]; rfl); first|rfl|(exfalso; omega)|exact absurd (by rw [hl4]; exact hg.ok hok) (of_decide_eq_false hd11)),yJ.out⟩
      ·refine zaR ?_
       exact ⟨_,_,zsb,(fun hg=>by have e1:m.entries.length=0:=(by rw [hg.may.ents]; rfl); have e2:m.data.length=0:=(by rw [hg.data]; rfl); first|rfl|(exfalso; omega)|exact absurd (by rw [hl4]; exact hg.ok hok) (of_decide_eq_false hd11)),yJ.out⟩
     ·refine zcE ?_
      exact ⟨_,_,zsb,(fun hg=>by have e1:m.entries.length=0:=(by rw [hg.may.ents]; rfl); have e2:m.data.length=0:=(by rw [hg.data]; rfl); first|rfl|(exfalso; omega)|exact absurd (by rw [hl4]; exact hg.ok hok) (of_decide_eq_false hd11)),yJ.out⟩
   ·refine zdU ?_
    refine yF M M (pv_gtr M M) (fun n13=>?_) (fun n13=>?_)
    ·repeat (refine zK M M M ?_)
     refine zX M M (zQ M M M) (hin 13) ?_
     rintro _ _ ⟨rfl,rfl⟩
     cases hd13:decide ((13:Int)∈lh)
     ·refine zaR ?_
      exact ⟨_,_,zsb,(fun hg=>by have e1:m.entries.length=0:=(by rw [hg.may.ents]; rfl); have e2:m.data.length=0:=(by rw [hg.data]; rfl); first|rfl|(exfalso; omega)|exact absurd (by rw [hl4]; exact hg.ok hok) (of_decide_eq_false hd11)),yJ.out⟩
     ·refine zaR ?_
      exact ⟨_,_,zsb,(fun hg=>by have e1:m.entries.length=0:=(by rw [hg.may.ents]; rfl); have e2:m.data.length=0:=(by rw [hg.data]; rfl); first|rfl|(exfalso; omega)|exact absurd (by rw [hl4]; exact hg.ok hok) (of_decide_eq_false hd11)),yJ.out⟩
    ·refine zcE ?_
     exact ⟨_,_,zsb,(fun hg=>by have e1:m.entries.length=0:=(by rw [hg.may.ents]; rfl); have e2:m.data.length=0:=(by rw [hg.data]; rfl); first|rfl|(exfalso; omega)|exact absurd (by rw [hl4]; exact hg.ok hok) (of_decide_eq_false hd11)),yJ.out⟩
  ·repeat (refine zK M M M ?_)
   refine zX M M (zQ M M M) (hin 11) ?_
   rintro _ _ ⟨rfl,rfl⟩
   cases hd11:decide ((11:Int)∈lh)
   ·refine zcE ?_
    exact ⟨_,_,zsb,(fun hg=>by have e1:m.entries.length=0:=(by rw [hg.may.ents]; rfl); have e2:m.data.length=0:=(by rw [hg.data]; rfl); first|rfl|(exfalso; omega)|exact absurd (by rw [hl4]; exact hg.ok hok) (of_decide_eq_false hd11)),yJ.out⟩
   ·refine zbW ?_
    refine yF M M (pv_gtr M M) (fun n12=>?_) (fun n12=>?_)
    ·repeat (refine zK M M M ?_)
     refine zX M M (zQ M M M) (hin 12) ?_
     rintro _ _ ⟨rfl,rfl⟩
     cases hd12:decide ((12:Int)∈lh)
     ·refine zcE ?_
      exact ⟨_,_,zsb,(fun hg=>by have e1:m.entries.length=0:=(by rw [hg.may.ents]; rfl); have e2:m.data.length=0:=(by rw [hg.data]; rfl); first|rfl|(exfalso; omega)|exact absurd (by rw [hl4]; exact hg.ok hok) (of_decide_eq_false hd11)),yJ.out⟩
     ·refine zbW ?_
      refine yF M M (pv_gtr M M) (fun n13=>?_) (fun n13=>?_)
      ·repeat (refine zK M M M ?_)
       refine zX M M (zQ M M M) (hin 13) ?_
       rintro _ _ ⟨rfl,rfl⟩
       cases hd13:decide ((13:Int)∈lh)
       ·refine zaR ?_
        exact ⟨_,_,zsb,(fun hg=>by have e1:m.entries.length=0:=(by rw [hg.may.ents]; rfl); have e2:m.data.length=0:=(by rw [hg.data]; rfl); first|rfl|(exfalso; omega)|exact absurd (by rw [hl4]; exact hg.ok hok) (of_decide_eq_false hd11)),yJ.out⟩
       ·refine zaR ?_
        exact ⟨_,_,zsb,(fun hg=>by have e1:m.entries.length=0:=(by rw [hg.may.ents]; rfl); have e2:m.data.length=0:=(by rw [hg.data]; rfl); first|rfl|(exfalso; omega)|exact absurd (by rw [hl4]; exact hg.ok hok) (of_decide_eq_false hd11)),yJ.out⟩
      ·refine zcE ?_
       exact ⟨_,_,zsb,(fun hg=>by have e1:m.entries.length=0:=(by rw [hg.may.ents]; rfl); have e2:m.data.length=0:=(by rw [hg.data]; rfl); first|rfl|(exfalso; omega)|exact absurd (by rw [hl4]; exact hg.ok hok) (of_decide_eq_false hd11)),yJ.out⟩
    ·refine zdU ?_
     refine yF M M (pv_gtr M M) (fun n13=>?_) (fun n13=>?_)
     ·repeat (refine zK M M M ?_)
      refine zX M M (zQ M M M) (hin 13) ?_
      rintro _ _ ⟨rfl,rfl⟩
      cases hd13:decide ((13:Int)∈lh)
      ·refine zaR ?_
       exact ⟨_,_,zsb,(fun hg=>by have e1:m.entries.length=0:=(by rw [hg.may.ents]; rfl); have e2:m.data.length=0:=(by rw [hg.data]; rfl); first|rfl|(exfalso; omega)|exact absurd (by rw [hl4]; exact hg.ok hok) (of_decide_eq_false hd11)),yJ.out⟩
      ·refine zaR ?_
       exact ⟨_,_,zsb,(fun hg=>by have e1:m.entries.length=0:=(by rw [hg.may.ents]; rfl); have e2:m.data.length=0:=(by rw [hg.data]; rfl); first|rfl|(exfalso; omega)|exact absurd (by rw [hl4]; exact hg.ok hok) (of_decide_eq_false hd11)),yJ.out⟩
     ·refine zcE ?_
      exact ⟨_,_,zsb,(fun hg=>by have e1:m.entries.length=0:=(by rw [hg.may.ents]; rfl); have e2:m.data.length=0:=(by rw [hg.data]; rfl); first|rfl|(exfalso; omega)|exact absurd (by rw [hl4]; exact hg.ok hok) (of_decide_eq_false hd11)),yJ.out⟩
 rintro g' _ ⟨q,R3,hsub,hgq,rfl⟩
 refine hold_env hsub ?_
 clear hsub g'
 cases q
 rotate_left
 ·refine zaB ?_
  exact ⟨[_],X,_,⟨rfl,trivial⟩,⟨_,rfl,(fun hg=>by cases hgq hg),rfl⟩,yJ.out⟩
 repeat (first|refine zF ?_|refine zB ?_|refine zP ?_|refine zI M ?_|refine L_ldA M (vs:=[_,_,_,_,_,_,_,_,_,_,_,_,_,_,_,_,_]) M M M M M ?_)
 refine zX M M (zQ M M M) hmay ?_
 rintro _ _ ⟨q,rfl,hm1,rfl⟩
 cases q
 ·refine zaB ?_
  exact ⟨[_],X,_,⟨rfl,trivial⟩,⟨_,rfl,(fun hg=>by cases hm1 hg.may),rfl⟩,yJ.out⟩
 refine zeJ ?_
 refine zX M M (zQ M M M) hlong ?_
 rintro _ _ ⟨q,rfl,hm2,rfl⟩
 cases q
 ·refine zbC ?_
  exact ⟨[_],X,_,⟨rfl,trivial⟩,⟨_,rfl,(fun _=>rfl),rfl⟩,yJ.out⟩
 ·refine zaB ?_
  exact ⟨[_],X,_,⟨rfl,trivial⟩,⟨_,rfl,(fun hg=>by cases hm2 ⟨hg.may.ents,hg.data⟩),rfl⟩,yJ.out⟩
end Sl
end Go.Proofs.YtfahijncpmlhjaaGreat
