/-
  What shardBytes.proved hangs on, part 3 of 8: ShL, ShM, ShN, ShO, ShP, ShQ, Flt, ShR, ShS.
-/
import Derived.Test.YtpkealohodeifaaGreatBy2
import Derived.Test.YtpkealohodeifaaGreatBy1
set_option linter.unusedVariables false
set_option linter.unusedSimpArgs false
namespace Go.Proofs.YtpkealohodeifaaGreat
open Go Go.RowKit
namespace Sl
abbrev Byt :=Fin 256
def byteAt (v:Int) (i:Nat):Byt:=⟨((v % 18446744073709551616) / 2 ^ (8*i) % 256).toNat,by omega⟩
theorem byteAt_val (v:Int) (i:Nat):((byteAt v i).val:Int)=(v % 18446744073709551616) / 2 ^ (8*i) % 256:=by
 show ((((v % 18446744073709551616) / 2 ^ (8*i) % 256).toNat:Nat):Int)=_
 omega
def be8 (v:Int):List Byt:=(List.range 8).map fun k=>byteAt v (7 - k)
theorem be8_length (v:Int):(be8 v).length=8:=by simp [be8]
theorem be8_snoc (v:Int) (k:Nat) (h:k<8):(be8 v).take (k+1)=(be8 v).take k++[byteAt v (7 - k)]:=by
 rw [List.take_succ_eq_append_getElem (by rw [be8_length]; exact h)]
 simp [be8]
theorem byte_step (v:Int) (k:Nat) (h:k<8):IntKind.u8.wrap ((IntKind.u64.wrap v).fdiv (2 ^ (min (8*(7 - (k:Int))).toNat IntKind.u64.bits)))=((byteAt v (7 - k)).val:Int):=by
 have e1:min (8*(7 - (k:Int))).toNat IntKind.u64.bits=8*(7 - k):=by
  have:IntKind.u64.bits=64:=rfl
  rw [this]; omega
 rw [e1,byteAt_val,u8_wrap,u64_wrap,Int.fdiv_eq_ediv_of_nonneg]
 exact Int.le_of_lt (Int.pow_pos (by decide))
def foldB (l:List Byt):Nat:=l.foldl (fun v x=>v*256+x.val) 0
def dec8 (l:List Byt):Int:=IntKind.i64.wrap (foldB l:Int)
theorem foldB_snoc (l:List Byt) (x:Byt):foldB (l++[x])=foldB l*256+x.val:=by simp [foldB,List.foldl_append]
theorem foldl_lt :∀ (l:List Byt) (a:Nat),l.foldl (fun v x=>v*256+x.val) a<(a+1)*256 ^ l.length
 | [],a=>by simp
 | x::l,a=>by
  have h:=foldl_lt l (a*256+x.val)
  have hx:=x.isLt
  rw [List.foldl_cons,List.length_cons,Nat.pow_succ,Nat.mul_comm (256 ^ l.length) 256,← Nat.mul_assoc]
  exact Nat.lt_of_lt_of_le h (Nat.mul_le_mul_right _ (by omega))
theorem foldB_lt (l:List Byt):foldB l<256 ^ l.length:=by
 have:=foldl_lt l 0
 rwa [Nat.zero_add,Nat.one_mul] at this
theorem i64_wrap (n:Int):IntKind.i64.wrap n=if 9223372036854775808≤n % 18446744073709551616 then n % 18446744073709551616 - 18446744073709551616 else n % 18446744073709551616:=by
 simp only [IntKind.wrap,IntKind.signed,IntKind.bits]
 simp
theorem or_byte (a x:Nat) (ha:a<72057594037927936) (hx:x<256) :
  IntKind.u64.wrap ((BitVec.ofInt IntKind.u64.bits (IntKind.u64.wrap ((a:Int)*2 ^ (min (8:Int).toNat IntKind.u64.bits))) ||| BitVec.ofInt IntKind.u64.bits (IntKind.u64.wrap (x:Int))).toNat:Int)=((a*256+x:Nat):Int):=by
 have e1:(a:Int)*2 ^ (min (8:Int).toNat IntKind.u64.bits)=((a*256:Nat):Int):=by
  have:min (8:Int).toNat IntKind.u64.bits=8:=by decide
  rw [this]; omega
 rw [e1,u64_in (n:=((a*256:Nat):Int)) (by omega) (by omega),u64_in (n:=(x:Int)) (by omega) (by omega),BitVec.ofInt_natCast,BitVec.ofInt_natCast,BitVec.toNat_or,BitVec.toNat_ofNat,BitVec.toNat_ofNat]
 have h64:IntKind.u64.bits=64:=rfl
 rw [h64,Nat.mod_eq_of_lt (by omega),Nat.mod_eq_of_lt (by omega)]
 have:=Nat.two_pow_add_eq_or_of_lt (i:=8) (b:=x) (by omega) a
 rw [show a*256=2 ^ 8*a by omega,← this,u64_in (by omega) (by omega)]
theorem foldB_take (v:Int):∀ k,k≤8→(foldB ((be8 v).take k):Int)=(v % 18446744073709551616) / 2 ^ (8*(8 - k))
 | 0,_=>by
  simp only [List.take_zero,foldB,List.foldl_nil]
  have:=Int.emod_nonneg v (show (18446744073709551616:Int)≠0 by decide)
  have:=Int.emod_lt_of_pos v (show (0:Int)<18446744073709551616 by decide)
  show (0:Int)=_ / 2 ^ 64
  omega
 | k+1,h=>by
  have ih:=foldB_take v k (by omega)
  rw [be8_snoc v k (by omega),foldB_snoc]
  have hb:=byteAt_val v (7 - k)
  rw [show 8 - (k+1)=7 - k by omega]
  rw [show 8 - k=(7 - k)+1 by omega,Nat.mul_add,Int.pow_add] at ih
  have h3:=Int.ediv_ediv_of_nonneg (x:=v % 18446744073709551616) (y:=2 ^ (8*(7 - k))) (z:=2 ^ (8*1)) (Int.le_of_lt (Int.pow_pos (by decide)))
  rw [← h3] at ih
  have e8:(2:Int) ^ (8*1)=256:=by decide
  rw [e8] at ih
  omega
theorem dec8_be8 (v:Int) (h0:-9223372036854775808≤v) (h1:v≤9223372036854775807):dec8 (be8 v)=v:=by
 have:=foldB_take v 8 (by omega)
 rw [List.take_of_length_le (by rw [be8_length]; omega)] at this
 unfold dec8
 rw [this,i64_wrap]
 have e0:(2:Int) ^ (8*(8 - 8))=1:=by decide
 rw [e0,Int.ediv_one]
 split<;>omega
theorem dec8_in (l:List Byt):-9223372036854775808≤dec8 l∧dec8 l≤9223372036854775807:=by
 unfold dec8
 rw [i64_wrap]
 split<;>omega
section
variable {P:Program} {g:Env}
theorem pv_slice_hm {t e:TypeId} [hu:Und P t (.slice e)] {sz by':Nat} {z:Value} [hi:Inf P e sz by' z] {x y y2:Operand} {ad:Option Addr} {len cap h q:Nat} {k k2:IntKind}
  (hx:ev g x=some (.slice ad len cap)) (hy:ev g y=some (.int k (h:Int))) (hy2:ev g y2=some (.int k2 (q:Int))) (hh:h≤q) (hq:q≤cap):PV P g (.slice t x none (some y) (some y2)) (.slice ad h q):=by
 intro o a w m ho ha
 obtain ⟨i,h1,_⟩:=hi.out
 have hh':(0:Int)≤(h:Int)∧(h:Int)≤(q:Int):=by omega
 have hq':(0:Int)≤(q:Int)∧(q:Int)≤(cap:Int):=by omega
 have hadd:∀ q:Addr,q.add 0=q:=fun q=>rfl
 unfold execOp
 simp only [ho,ha.ev hx,Option.map_some,ha.ev hy,ha.ev hy2,Option.map_none,Instr.sliceAt,Sem.run_bind,run_underlying hu.out,Result.andThen_ok,Instr.slice,Instr.sliceBounds,Instr.sliceBound,asIntOf,Sem.run_pure,hq',hh',and_self,if_true,sizeOf,typeInfo,run_program,h1,
  Int.toNat_natCast,Nat.zero_mul,Nat.sub_zero,hadd]
 cases ad<;>simp
end
theorem RdL.cap {α:Type} [ρ:Rep α] {w0:World} {L:Hp} {ad:Option Addr} {n c c':Nat} {xs:List α} (h:RdL w0 L (.slice ad n c) xs):RdL w0 L (.slice ad n c') xs:=by
 obtain ⟨es,h1,h2⟩:=h
 obtain ⟨rfl,h3⟩:=h1.at
 exact ⟨es,⟨ad,c',rfl,h3⟩,h2⟩
structure RS where
 left:List Byt
 bad:Bool
def RS.wf (s:RS):Prop:=s.bad=true→s.left=[]
def takeOk (s:RS) (n:Int):Bool:=!s.bad&&decide (0≤n∧n≤s.left.length)
def takeV (s:RS) (n:Int):List Byt:=if takeOk s n=true then s.left.take n.toNat else []
def takeS (s:RS) (n:Int):RS:=if takeOk s n=true then ⟨s.left.drop n.toNat,false⟩ else ⟨[],true⟩
def intV (s:RS):Int:=if takeOk s 8=true then dec8 (takeV s 8) else 0
def intS (s:RS):RS:=takeS s 8
def blobV (s:RS):List Byt:=takeV (intS s) (intV s)
def blobS (s:RS):RS:=takeS (intS s) (intV s)
def many {α:Type} (f:RS→α × RS):Nat→RS→List α × RS
 | 0,s=>([],s)
 | k+1,s=>((many f k s).1++[(f (many f k s).2).1],(f (many f k s).2).2)
theorem many_length {α:Type} (f:RS→α × RS):∀ k s,(many f k s).1.length=k
 | 0,_=>rfl
 | k+1,s=>by simp [many,many_length f k s]
def intsOk (s:RS):Bool:=!(intS s).bad&&decide (0≤intV s∧intV s≤(intS s).left.length / 8)
def intsV (s:RS):List Int:=if intsOk s=true then (many (fun s=>(intV s,intS s)) (intV s).toNat (intS s)).1 else []
def intsS (s:RS):RS:=if intsOk s=true then (many (fun s=>(intV s,intS s)) (intV s).toNat (intS s)).2 else ⟨[],true⟩
theorem takeS_wf (s:RS) (n:Int):(takeS s n).wf:=by
 unfold takeS RS.wf
 split<;>simp
theorem takeS_len (s:RS) (n:Int):(takeS s n).left.length≤s.left.length:=by
 unfold takeS
 split
 ·simp
 ·simp
end Sl
end Go.Proofs.YtpkealohodeifaaGreat
namespace Go.Proofs.YtpkealohodeifaaGreat
open Go Go.RowKit
namespace Sl
set_option maxHeartbeats 4000000
set_option maxRecDepth 4000
attribute [local irreducible] Hold HoldL HoldW
theorem number_spec (w0:World) (v:Value) (b:List Bt) (h:Hp) (n:Int) (ho:OwL w0 0 b v h) (hl:b.length≤100000000000000) :
  Spec Tryz.prog w0 153 [v,.int .i64 n] h (fun r h'=>OwL w0 0 (b++be8 n) r h'):=by
 refine zN Tryz.func153 G Tryz.ntmps153 Tryz.results153 G fun fr=>?_
 repeat (first|refine zF ?_|refine zR ?_|refine zB ?_|refine zE ?_|refine zK G G G ?_)
 refine hold_count 8 (fun k g L=>∃ (vo:Value) (h2 R:Hp),g=[(0,vo),(1,.int .i64 n),(5,.int .i64 (7 - (k:Int)))]∧OwL w0 0 (b++(be8 n).take k) vo h2∧L=h2+fr+R) _
  ⟨v,h,0,rfl,by simpa using ho,by simp only [yB]⟩ (by repeat (first|exact zT _|refine zO G ?_)) ?_
 rintro k g L hk ⟨vo,h2,R,rfl,ho2,rfl⟩
 repeat (first|refine zF ?_|refine zB ?_|refine zK G G G ?_)
 refine yG G G (pv_geq G G) (fun h3=>?_) (fun h3=>?_)
 ·have hk8:k<8:=by omega
  repeat (first|refine zF ?_|refine zR ?_|refine zB ?_|refine zE ?_|refine zK G G G ?_|refine zP ?_|refine zJ G ?_)
  refine yH G G (pv_conv_int G) ?_
  repeat (refine zK G G G ?_)
  refine yH G G (pv_mul G G (by omega) (by omega)) ?_
  refine yH G G (pv_shr G G (by omega)) ?_
  refine yH G G (pv_conv_to G (byte_step n k hk8)) ?_
  repeat (refine L_bs (vs:=[_]) (cells:=[_]) G G G G G G (fun _=>?_))
  refine L_eff G G (ev_appendL (X:=0) (ns:=[byteAt n (7 - k)]) (h:=h2) G G ho2 (rd_one G) (All2.one G) G G G G G (by simp only [List.length_append,List.length_take,be8_length,List.length_singleton]; omega)) ?_
  rintro vo' _ ⟨h',ho',rfl⟩
  repeat (first|refine zB ?_|refine zE ?_|refine zK G G G ?_|refine L_sub G G (by omega) (by omega) G G ?_)
  rw [List.append_assoc,← be8_snoc n k hk8] at ho'
  rw [show (7:Int) - (k:Int) - 1=7 - ((k+1:Nat):Int) by omega]
  exact ⟨hk8,_,(by repeat (first|exact zT _|refine zO G ?_)),vo',h',_,rfl,ho',yK.out⟩
 ·repeat (first|refine zF ?_|refine yD ?_|refine zB ?_|refine zE ?_|refine zK G G G ?_|refine zM ?_|refine zI G ?_)
  rw [List.take_of_length_le (by rw [be8_length]; omega)] at ho2
  exact ⟨[_],h2,_,⟨rfl,trivial⟩,ho2,yK.out⟩
theorem room_spec (w0:World) (X:Hp) (v:Value) (b:List Bt) (n:Nat) (hv:RdL w0 X v b) (hl:b.length+n≤100000000000000) :
  Spec Tryz.prog w0 154 [v,.int .i64 (n:Int)] X (fun r h'=>∃ h,OwL w0 0 b r h∧X+h=h'):=by
 obtain ⟨es,h1,h2⟩:=id hv
 obtain ⟨a,c,rfl⟩:=hv.shape
 refine zN Tryz.func154 G Tryz.ntmps154 Tryz.results154 G fun fr=>?_
 repeat (first|refine zF ?_|refine zB ?_|refine zE ?_|refine zK G G G ?_|refine L_len G G G ?_|refine L_add G G (by omega) (by omega) G G ?_)
 refine L_eff G G (ev_makeSliceC (m:=0) (n:=b.length+n) G G (by omega) G (by omega) (by omega)) ?_
 rintro _ _ ⟨b9,rfl,rfl⟩
 repeat (refine zK G G G ?_)
 refine L_eff G G (ev_appendL (xs:=([]:List Bt)) (X:=0) (h:=pt b9 (.cells (List.replicate (b.length+n) (Value.cells (.int .u8 0)).toList).flatten.toArray 5 (0,0))) G G ⟨[],isRow_room (n:=b.length+n) (flat_reps _ _) (by unfold maxLen; omega),trivial⟩ (h1.frame) (rdB_enc.2 (rdB_enc.1 h2)) G G G G G (by simp; omega)) ?_
 rintro v' _ ⟨h',hr',rfl⟩
 repeat (first|refine zE ?_|refine zK G G G ?_|refine zM ?_)
 exact ⟨[_],X+h',_,⟨rfl,trivial⟩,⟨h',hr',rfl⟩,yK.out⟩
theorem putInt_spec (w0:World) (X:Hp) (v:Value) (b:List Bt) (n:Int) (hv:RdL w0 X v b) (hl:b.length≤99999999999990) :
  Spec Tryz.prog w0 91 [v,.int .i64 n] X (fun r h'=>∃ h,OwL w0 0 (b++be8 n) r h∧X+h=h'):=by
 have hroom:=room_spec w0 X v b 8 hv (by omega)
 obtain ⟨a,c,rfl⟩:=hv.shape
 refine zN Tryz.func91 G Tryz.ntmps91 Tryz.results91 G fun fr=>?_
 repeat (first|refine zF ?_|refine zB ?_|refine zE ?_|refine zK G G G ?_)
 refine zY G G (zQ G G G) hroom ?_
 rintro v1 _ ⟨h1,ho1,rfl⟩
 repeat (refine zK G G G ?_)
 refine zY G G (zQ G G G) (number_spec w0 v1 b h1 n ho1 (by omega)) ?_
 rintro v2 h2 ho2
 repeat (first|refine zE ?_|refine zK G G G ?_|refine zM ?_)
 exact ⟨[_],X+h2,_,⟨rfl,trivial⟩,⟨h2,ho2,rfl⟩,yK.out⟩
theorem putBlob_spec (w0:World) (X:Hp) (v u:Value) (b p:List Bt) (hv:RdL w0 X v b) (hu:RdL w0 X u p) (hl:b.length+p.length≤99999999999980) :
  Spec Tryz.prog w0 92 [v,u] X (fun r h'=>∃ h,OwL w0 0 (b++be8 p.length++p) r h∧X+h=h'):=by
 have hroom:=room_spec w0 X v b (8+p.length) hv (by omega)
 obtain ⟨es,h1,h2⟩:=id hu
 obtain ⟨a,c,rfl⟩:=hv.shape
 obtain ⟨a2,c2,rfl⟩:=hu.shape
 refine zN Tryz.func92 G Tryz.ntmps92 Tryz.results92 G fun fr=>?_
 repeat (first|refine zF ?_|refine zB ?_|refine zE ?_|refine zK G G G ?_|refine L_len G G G ?_|refine L_add G G (by omega) (by omega) G G ?_)
 rw [show (8:Int)+(p.length:Int)=((8+p.length:Nat):Int) by omega]
 refine zY G G (zQ G G G) hroom ?_
 rintro v1 _ ⟨h3,ho1,rfl⟩
 repeat (first|refine zK G G G ?_|refine L_len G G G ?_)
 refine zY G G (zQ G G G) (number_spec w0 v1 b h3 p.length ho1 (by omega)) ?_
 rintro v2 h4 ho2
 repeat (refine zK G G G ?_)
 refine L_eff G G (ev_appendL (X:=0) (h:=h4) G G ho2 (h1.frame) (rdB_enc.2 (rdB_enc.1 h2)) G G G G G (by rw [List.length_append,be8_length]; omega)) ?_
 rintro v' _ ⟨h',hr',rfl⟩
 repeat (first|refine zE ?_|refine zK G G G ?_|refine zM ?_)
 exact ⟨[_],X+h',_,⟨rfl,trivial⟩,⟨h',hr',rfl⟩,yK.out⟩
def encInts (l:List Int):List Bt:=be8 l.length++(l.map be8).flatten
theorem encInts_length (l:List Int):(encInts l).length=8+8*l.length:=by
 have:∀ l:List Int,(l.map be8).flatten.length=8*l.length:=by
  intro l
  induction l with
  | nil=>rfl
  | cons x l ih=>simp only [List.map_cons,List.flatten_cons,List.length_append,be8_length,ih,List.length_cons]; omega
 rw [encInts,List.length_append,be8_length,this]
theorem putInts_spec (w0:World) (X:Hp) (v u:Value) (b:List Bt) (l:List Int) (hv:RdL w0 X v b) (hu:RdL w0 X u l) (hl:b.length≤90000000000000) (hll:l.length≤1000000000000) :
  Spec Tryz.prog w0 88 [v,u] X (fun r h'=>∃ h,OwL w0 0 (b++encInts l) r h∧X+h=h'):=by
 have hroom:=room_spec w0 X v b (8+8*l.length) hv (by omega)
 obtain ⟨a,c,rfl⟩:=hv.shape
 obtain ⟨a2,c2,rfl⟩:=hu.shape
 refine zN Tryz.func88 G Tryz.ntmps88 Tryz.results88 G fun fr=>?_
 repeat (first|refine zF ?_|refine zB ?_|refine zE ?_|refine zK G G G ?_|refine L_len G G G ?_)
 refine yH G G (pv_mul G G (by omega) (by omega)) ?_
 repeat (refine L_add G G (by omega) (by omega) G G ?_)
 rw [show (8:Int)+(8:Int)*(l.length:Int)=((8+8*l.length:Nat):Int) by omega]
 refine zY G G (zQ G G G) hroom ?_
 rintro v1 _ ⟨h3,ho1,rfl⟩
 repeat (first|refine zK G G G ?_|refine L_len G G G ?_)
 refine zY G G (zQ G G G) (number_spec w0 v1 b h3 l.length ho1 (by omega)) ?_
 rintro v2 h4 ho2
 repeat (first|refine zF ?_|refine zR ?_|refine zB ?_|refine zE ?_|refine zK G G G ?_|refine L_len G G G ?_)
 have hlen:∀ k,k≤l.length→((l.take k).map be8).flatten.length≤8*k:=by
  intro k hk
  have:=encInts_length (l.take k)
  rw [encInts,List.length_append,be8_length,List.length_take] at this
  omega
 refine hold_count l.length (fun k g L=>∃ (vo:Value) (h2 R:Hp),g=[(5,vo),(17,.slice a2 l.length c2),(18,.int .i64 l.length),(19,.int .i64 k)]∧OwL w0 0 (b++be8 l.length++((l.take k).map be8).flatten) vo h2∧L=X+h2+fr+R) _
  ⟨v2,h4,0,rfl,by simpa using ho2,by simp only [yB]; ac_rfl⟩ (by repeat (first|exact zT _|refine zO G ?_)) ?_
 rintro k g L hk ⟨vo,h2,R,rfl,ho,rfl⟩
 repeat (first|refine zF ?_|refine zB ?_)
 refine yG G G (pv_lss G G) (fun h3=>?_) (fun h3=>?_)
 ·have hx:k<l.length:=by omega
  obtain ⟨b2,o2,rfl,e,rfl,hat⟩:=hu.at hx
  repeat (first|refine zF ?_|refine zR ?_|refine zB ?_|refine zE ?_|refine zK G G G ?_|refine zP ?_|refine zJ G ?_|refine L_idx G G (by omega) G G ?_|refine L_at G (by assumption) G G G G ?_)
  refine zY G G (zQ G G G) (number_spec w0 vo _ h2 l[k] ho (by rw [List.length_append,List.length_append,be8_length]; have:=hlen k (by omega); omega)) ?_
  rintro v5 h5 ho5
  repeat (first|refine zB ?_|refine zE ?_|refine zK G G G ?_|refine L_add G G (by omega) (by omega) G G ?_)
  refine ⟨hx,_,(by repeat (first|exact zT _|refine zO G ?_)),v5,h5,_,rfl,?_,yK.out⟩
  rw [List.take_succ_eq_append_getElem hx,List.map_append,List.flatten_append]
  simpa [List.append_assoc] using ho5
 ·rw [List.take_of_length_le (by omega)] at ho
  repeat (first|refine zF ?_|refine yD ?_|refine zB ?_|refine zE ?_|refine zK G G G ?_|refine zM ?_|refine zI G ?_)
  exact ⟨[_],X+h2,_,⟨rfl,trivial⟩,⟨h2,by rw [encInts,← List.append_assoc]; exact ho,rfl⟩,yK.out⟩
def RdrAt (w0:World) (D:Hp) (b:Nat) (s:RS) (h:Hp):Prop:=∃ a c,h=pt b (.cells [.slice a s.left.length c,.bool s.bad].toArray 186 (0,0))∧RdL w0 D (.slice a s.left.length c) s.left∧s.left.length≤c
theorem read02_spec (w0:World) (X:Hp) (v:Value) (b:List Bt) (hv:RdL w0 X v b) (hl:b.length≤1000000000000) :
  Spec Tryz.prog w0 46 [v] X (fun r h'=>∃ p D h,r=.pointer (some ⟨p,0,none⟩)∧RdrAt w0 D p ⟨b,false⟩ h∧X+(D+h)=h'):=by
 have hcl:=cloneB_spec w0 X v b hv hl
 obtain ⟨a,c,rfl⟩:=hv.shape
 refine zN Tryz.func46 G Tryz.ntmps46 Tryz.results46 G fun fr=>?_
 repeat (first|refine zF ?_|refine zB ?_|refine zE ?_|refine zK G G G ?_)
 refine zY G G (zQ G G G) hcl ?_
 rintro v1 _ ⟨h1,ho,rfl⟩
 obtain ⟨es,hrow,hall⟩:=id ho
 have hlen:=hall.length
 obtain ⟨a2,c2,rfl,hc2⟩:∃ a2 c2,v1=.slice a2 b.length c2∧b.length≤c2:=by
  obtain ⟨_,⟨ad,rfl,e,_⟩|⟨b',cap,spare,rfl,_,h4,_,_⟩⟩:=hrow
  ·refine ⟨ad,0,?_,?_⟩<;>(rw [e] at hlen; simp at hlen)
   ·rw [← hlen]
   ·omega
  ·exact ⟨_,cap,by rw [hlen],by omega⟩
 repeat (first|refine zE ?_|refine zK G G G ?_|refine zM ?_|refine L_build (vs:=[_]) (cells:=[_,_]) G G G G ?_|refine L_box G (c:=[_,_]) G G G (fun _=>?_))
 rename_i p
 exact ⟨[_],X+(h1+pt p (.cells [.slice a2 b.length c2,.bool false].toArray 186 (0,0))),_,⟨rfl,trivial⟩,⟨p,h1,_,rfl,⟨a2,c2,rfl,ho.plainB.rd (X:=0) (R:=0),hc2⟩,rfl⟩,yK.out⟩
theorem fail_spec (w0:World) (b:Nat) (u v:Value):Spec Tryz.prog w0 147 [.pointer (some ⟨b,0,none⟩)] (pt b (.cells [u,v].toArray 186 (0,0)))
  (fun r h'=>r=.tuple #[]∧pt b (.cells [.slice none 0 0,.bool true].toArray 186 (0,0))=h'):=by
 refine zN Tryz.func147 G Tryz.ntmps147 Tryz.results147 G fun fr=>?_
 repeat (first|refine zB ?_|refine zE ?_|refine zK G G G ?_|refine zZ G G G G G ?_|refine L_st G G G (c':=[_,_]) G G G G ?_)
 exact ⟨[],_,_,trivial,⟨rfl,rfl⟩,yK.out⟩
theorem rdr_bad (w0:World) (D:Hp) (b:Nat):RdrAt w0 D b ⟨[],true⟩ (pt b (.cells [.slice none 0 0,.bool true].toArray 186 (0,0))):=⟨none,0,rfl,RdL.nil _ _ _,Nat.le_refl _⟩
theorem take02_spec (w0:World) (D:Hp) (b:Nat) (s:RS) (h:Hp) (n:Int) (hr:RdrAt w0 D b s h) (hl:s.left.length≤1000000000000) :
  Spec Tryz.prog w0 140 [.pointer (some ⟨b,0,none⟩),.int .i64 n] (D+h) (fun r h'=>∃ a c h2,r=.tuple #[.slice a (takeV s n).length c,.bool (takeOk s n)]∧RdL w0 D (.slice a (takeV s n).length c) (takeV s n)∧RdrAt w0 D b (takeS s n) h2∧D+h2=h'):=by
 obtain ⟨a,c,rfl,hrd,hc⟩:=hr
 obtain ⟨left,bad⟩:=s
 refine zN Tryz.func140 G Tryz.ntmps140 Tryz.results140 G fun fr=>?_
 repeat (first|refine zF ?_|refine zB ?_|refine zE ?_|refine zK G G G ?_|refine zZ G G G G G ?_|refine L_ld G G G G G ?_)
 cases bad
 ·repeat (refine zK G G G ?_)
  refine yG G G (pv_lss G G) (fun h1=>?_) (fun h1=>?_)
  ·have hno:takeOk ⟨left,false⟩ n=false:=by simp [takeOk]; omega
   repeat (first|refine zF ?_|refine zB ?_|refine zE ?_|refine zK G G G ?_|refine L_skip G G ?_|refine zJ G ?_)
   refine zY G G (zQ G G G) (fail_spec w0 b (.slice a left.length c) (.bool false)) ?_
   rintro _ _ ⟨rfl,rfl⟩
   repeat (first|refine zF ?_|refine zB ?_|refine zE ?_|refine zK G G G ?_|refine zM ?_)
   exact ⟨[_,_],D+_,_,⟨rfl,rfl,trivial⟩,⟨none,0,_,by simp only [takeV,hno]; rfl,by simp only [takeV,hno]; exact RdL.nil _ _ _,by simp only [takeS,hno]; exact rdr_bad w0 D b,rfl⟩,yK.out⟩
  ·repeat (first|refine zK G G G ?_|refine zZ G G G G G ?_|refine L_ld G G G G G ?_|refine L_len G G G ?_)
   refine yG G G (pv_gtr G G) (fun h2=>?_) (fun h2=>?_)
   ·have hno:takeOk ⟨left,false⟩ n=false:=by simp [takeOk]; intro _; exact h2
    repeat (first|refine zF ?_|refine zB ?_|refine zE ?_|refine zK G G G ?_|refine zJ G ?_)
    refine zY G G (zQ G G G) (fail_spec w0 b (.slice a left.length c) (.bool false)) ?_
    rintro _ _ ⟨rfl,rfl⟩
    repeat (first|refine zF ?_|refine zB ?_|refine zE ?_|refine zK G G G ?_|refine zM ?_)
    exact ⟨[_,_],D+_,_,⟨rfl,rfl,trivial⟩,⟨none,0,_,by simp only [takeV,hno]; rfl,by simp only [takeV,hno]; exact RdL.nil _ _ _,by simp only [takeS,hno]; exact rdr_bad w0 D b,rfl⟩,yK.out⟩
   ·obtain ⟨k,rfl⟩:=Int.eq_ofNat_of_zero_le (show 0≤n by omega)
    have hk:k≤left.length:=by simp only at h2; omega
    have hyes:takeOk ⟨left,false⟩ (k:Int)=true:=by simp [takeOk]; omega
    have hc':left.length≤c:=hc
    repeat (first|refine zF ?_|refine zB ?_|refine zE ?_|refine zK G G G ?_|refine zZ G G G G G ?_|refine L_ld G G G G G ?_|refine zP ?_|refine zI G ?_)
    refine yH G G (pv_slice_hm (h:=k) (q:=k) G G G (Nat.le_refl _) (by omega)) ?_
    repeat (first|refine zF ?_|refine zB ?_|refine zE ?_|refine zK G G G ?_|refine zZ G G G G G ?_|refine L_ld G G G G G ?_)
    refine yH G G (pv_slice_l (l:=k) G G hk) ?_
    repeat (first|refine zF ?_|refine zB ?_|refine zE ?_|refine zK G G G ?_|refine zZ G G G G G ?_|refine zM ?_|refine L_st G G G (c':=[_,_]) G G G G ?_)
    have htl:(takeV ⟨left,false⟩ (k:Int)).length=k:=by simp only [takeV,hyes]; simp; omega
    refine ⟨[_,_],D+pt b (.cells [.slice (shiftA a k c 1) (left.length - k) (c - k),.bool false].toArray 186 (0,0)),_,⟨rfl,rfl,trivial⟩,⟨a,k,_,by rw [htl,hyes]; rfl,?_,⟨shiftA a k c 1,c - k,?_,?_,?_⟩,rfl⟩,yK.out⟩
    ·rw [htl]
     simp only [takeV,hyes,if_true,Int.toNat_natCast]
     exact (hrd.take hk).cap
    ·simp only [takeS,hyes,if_true,Int.toNat_natCast,List.length_drop]
    ·simp only [takeS,hyes,if_true,Int.toNat_natCast,List.length_drop]
     exact hrd.drop hk hc
    ·simp only [takeS,hyes,if_true,Int.toNat_natCast,List.length_drop]
     omega
 ·have hno:takeOk ⟨left,true⟩ n=false:=by simp [takeOk]
  repeat (first|refine zF ?_|refine zB ?_|refine zE ?_|refine zK G G G ?_|refine L_skip G G ?_|refine zJ G ?_)
  refine zY G G (zQ G G G) (fail_spec w0 b (.slice a left.length c) (.bool true)) ?_
  rintro _ _ ⟨rfl,rfl⟩
  repeat (first|refine zF ?_|refine zB ?_|refine zE ?_|refine zK G G G ?_|refine zM ?_)
  exact ⟨[_,_],D+_,_,⟨rfl,rfl,trivial⟩,⟨none,0,_,by simp only [takeV,hno]; rfl,by simp only [takeV,hno]; exact RdL.nil _ _ _,by simp only [takeS,hno]; exact rdr_bad w0 D b,rfl⟩,yK.out⟩
theorem getInt_spec (w0:World) (D:Hp) (b:Nat) (s:RS) (h:Hp) (hr:RdrAt w0 D b s h) (hl:s.left.length≤1000000000000) :
  Spec Tryz.prog w0 47 [.pointer (some ⟨b,0,none⟩)] (D+h) (fun r h'=>∃ h2,r=.int .i64 (intV s)∧RdrAt w0 D b (intS s) h2∧D+h2=h'):=by
 refine zN Tryz.func47 G Tryz.ntmps47 Tryz.results47 G fun fr=>?_
 repeat (first|refine zF ?_|refine zB ?_|refine zE ?_|refine zK G G G ?_)
 refine zY G G (zQ G G G) (take02_spec w0 D b s h 8 hr hl) ?_
 rintro _ _ ⟨a,c,h2,rfl,hrd,hr2,rfl⟩
 cases ht:takeOk s 8
 ·repeat (first|refine zF ?_|refine zB ?_|refine zE ?_|refine zK G G G ?_|refine zM ?_|refine zJ G ?_)
  exact ⟨[_],D+h2,_,⟨rfl,trivial⟩,⟨h2,by simp only [intV,ht]; rfl,hr2,rfl⟩,yK.out⟩
 ·have hlen:(takeV s 8).length=8:=by
   simp only [takeV,ht,if_true]
   have:=(show s.bad=false∧(0:Int)≤8∧(8:Int)≤s.left.length by simpa [takeOk] using ht)
   simp; omega
  repeat (first|refine zF ?_|refine zR ?_|refine zB ?_|refine zE ?_|refine zK G G G ?_|refine L_len G G G ?_|refine zP ?_|refine zI G ?_)
  refine hold_count (takeV s 8).length (fun k g L=>∃ R:Hp,g=[(5,.int .u64 (foldB ((takeV s 8).take k):Nat)),(15,.slice a (takeV s 8).length c),(16,.int .i64 (takeV s 8).length),(17,.int .i64 k)]∧L=D+h2+fr+R) _
   ⟨0,rfl,by simp only [yB]⟩ (by repeat (first|exact zT _|refine zO G ?_)) ?_
  rintro k g L hk ⟨R,rfl,rfl⟩
  repeat (first|refine zF ?_|refine zB ?_)
  refine yG G G (pv_lss G G) (fun h3=>?_) (fun h3=>?_)
  ·have hx:k<(takeV s 8).length:=by omega
   obtain ⟨b2,o2,rfl,e,rfl,hat⟩:=hrd.at hx
   have hat':At w0 D b2 (o2+k*1) [.int .u8 ((takeV s 8)[k].val:Int)]:=hat
   have hlt:foldB ((takeV s 8).take k)<72057594037927936:=by
    have h1:=foldB_lt ((takeV s 8).take k)
    have h2:256 ^ ((takeV s 8).take k).length≤256 ^ 7:=Nat.pow_le_pow_right (by decide) (by rw [List.length_take]; omega)
    have h3:(256:Nat) ^ 7=72057594037927936:=by decide
    omega
   repeat (first|refine zF ?_|refine zR ?_|refine zB ?_|refine zE ?_|refine zK G G G ?_|refine zP ?_|refine zJ G ?_|refine L_idx G G (by omega) G G ?_|refine L_at G (by assumption) G G G G ?_)
   refine yH G G (pv_shl G G (by decide)) ?_
   repeat (refine zK G G G ?_)
   refine yH G G (pv_conv_int G) ?_
   refine yH G G (pv_or G G) ?_
   rw [or_byte _ _ hlt (takeV s 8)[k].isLt,← foldB_snoc,← List.take_succ_eq_append_getElem hx]
   repeat (first|refine zB ?_|refine zE ?_|refine zK G G G ?_|refine L_add G G (by omega) (by omega) G G ?_)
   exact ⟨hx,_,(by repeat (first|exact zT _|refine zO G ?_)),_,rfl,yK.out⟩
  ·rw [List.take_of_length_le (by omega)]
   repeat (first|refine zF ?_|refine yD ?_|refine zB ?_|refine zE ?_|refine zK G G G ?_|refine zI G ?_)
   refine yH G G (pv_conv_int G) ?_
   repeat (first|refine zE ?_|refine zK G G G ?_|refine zM ?_)
   exact ⟨[_],D+h2,_,⟨rfl,trivial⟩,⟨h2,by simp only [intV,ht]; rfl,hr2,rfl⟩,yK.out⟩
theorem getBlob_spec (w0:World) (D:Hp) (b:Nat) (s:RS) (h:Hp) (hr:RdrAt w0 D b s h) (hl:s.left.length≤1000000000000) :
  Spec Tryz.prog w0 57 [.pointer (some ⟨b,0,none⟩)] (D+h) (fun r h'=>∃ a c h2,r=.slice a (blobV s).length c∧RdL w0 D (.slice a (blobV s).length c) (blobV s)∧RdrAt w0 D b (blobS s) h2∧D+h2=h'):=by
 refine zN Tryz.func57 G Tryz.ntmps57 Tryz.results57 G fun fr=>?_
 repeat (first|refine zF ?_|refine zB ?_|refine zE ?_|refine zK G G G ?_)
 refine zY G G (zQ G G G) (getInt_spec w0 D b s h hr hl) ?_
 rintro _ _ ⟨h2,rfl,hr2,rfl⟩
 refine zY G G (zQ G G G) (take02_spec w0 D b (intS s) h2 (intV s) hr2 (by have:=takeS_len s 8; unfold intS; omega)) ?_
 rintro _ _ ⟨a,c,h3,rfl,hrd,hr3,rfl⟩
 repeat (first|refine zF ?_|refine zB ?_|refine zE ?_|refine zK G G G ?_|refine zM ?_)
 exact ⟨[_],D+h3,_,⟨rfl,trivial⟩,⟨a,c,h3,rfl,hrd,hr3,rfl⟩,yK.out⟩
theorem left02_spec (w0:World) (D:Hp) (b:Nat) (s:RS) (h:Hp) (hr:RdrAt w0 D b s h) :
  Spec Tryz.prog w0 145 [.pointer (some ⟨b,0,none⟩)] (D+h) (fun r h'=>r=.int .i64 s.left.length∧D+h=h'):=by
 obtain ⟨a,c,rfl,hrd,hc⟩:=hr
 refine zN Tryz.func145 G Tryz.ntmps145 Tryz.results145 G fun fr=>?_
 repeat (first|refine zF ?_|refine zB ?_|refine zE ?_|refine zK G G G ?_|refine zZ G G G G G ?_|refine L_ld G G G G G ?_|refine L_len G G G ?_|refine zM ?_)
 exact ⟨[_],D+_,_,⟨rfl,trivial⟩,⟨rfl,rfl⟩,yK.out⟩
theorem bad02_spec (w0:World) (D:Hp) (b:Nat) (s:RS) (h:Hp) (hr:RdrAt w0 D b s h) :
  Spec Tryz.prog w0 146 [.pointer (some ⟨b,0,none⟩)] (D+h) (fun r h'=>r=.bool s.bad∧D+h=h'):=by
 obtain ⟨a,c,rfl,hrd,hc⟩:=hr
 refine zN Tryz.func146 G Tryz.ntmps146 Tryz.results146 G fun fr=>?_
 repeat (first|refine zF ?_|refine zB ?_|refine zE ?_|refine zK G G G ?_|refine zZ G G G G G ?_|refine L_ld G G G G G ?_|refine zM ?_)
 exact ⟨[_],D+_,_,⟨rfl,trivial⟩,⟨rfl,rfl⟩,yK.out⟩
def endV (s:RS):Int:=if s.bad=true then 4 else if s.left=[] then 0 else 2
theorem end02_spec (w0:World) (D:Hp) (b:Nat) (s:RS) (h:Hp) (hr:RdrAt w0 D b s h) :
  Spec Tryz.prog w0 62 [.pointer (some ⟨b,0,none⟩)] (D+h) (fun r h'=>r=.int .i64 (endV s)∧D+h=h'):=by
 obtain ⟨a,c,rfl,hrd,hc⟩:=hr
 obtain ⟨left,bad⟩:=s
 refine zN Tryz.func62 G Tryz.ntmps62 Tryz.results62 G fun fr=>?_
 repeat (first|refine zF ?_|refine zR ?_|refine zB ?_|refine zE ?_|refine zK G G G ?_|refine zZ G G G G G ?_|refine L_ld G G G G G ?_)
 cases bad
 ·repeat (first|refine zF ?_|refine zB ?_|refine zK G G G ?_|refine zZ G G G G G ?_|refine L_ld G G G G G ?_|refine L_len G G G ?_|refine zI G ?_)
  refine yG G G (pv_gtr G G) (fun h1=>?_) (fun h1=>?_)
  ·repeat (first|refine zF ?_|refine zB ?_|refine zE ?_|refine zK G G G ?_|refine zM ?_|refine zJ G ?_)
   exact ⟨[_],D+_,_,⟨rfl,trivial⟩,⟨by simp only [endV]; rw [if_neg (by simp),if_neg (by rintro rfl; simp at h1)]; rfl,rfl⟩,yK.out⟩
  ·repeat (first|refine zF ?_|refine zB ?_|refine zE ?_|refine zK G G G ?_|refine zP ?_|refine zM ?_|refine zI G ?_)
   exact ⟨[_],D+_,_,⟨rfl,trivial⟩,⟨by simp only [endV]; rw [if_neg (by simp),if_pos (by simp only at h1; exact List.eq_nil_of_length_eq_zero (by omega))]; rfl,rfl⟩,yK.out⟩
 ·repeat (first|refine zF ?_|refine zB ?_|refine zE ?_|refine zK G G G ?_|refine zM ?_|refine zJ G ?_)
  exact ⟨[_],D+_,_,⟨rfl,trivial⟩,⟨rfl,rfl⟩,yK.out⟩
theorem many_len {α:Type} {f:RS→α × RS} (hf:∀ s,(f s).2.left.length≤s.left.length):∀ k s,(many f k s).2.left.length≤s.left.length
 | 0,_=>Nat.le_refl _
 | k+1,s=>Nat.le_trans (hf _) (many_len hf k s)
theorem intsAt_set {b:Nat} {l:List Int} {i:Nat} (h:i<l.length) (n:Int):((enc1 l).flatten++[]).set (0+i*1) (.int .i64 n)=(enc1 (l.set i n)).flatten++[]:=by
 have:=ints_set h n
 simpa using this
theorem getInts_spec (w0:World) (D:Hp) (b:Nat) (s:RS) (h:Hp) (hr:RdrAt w0 D b s h) (hl:s.left.length≤1000000000000) :
  Spec Tryz.prog w0 54 [.pointer (some ⟨b,0,none⟩)] (D+h) (fun r h'=>∃ a c h2 h3,r=.slice a (intsV s).length c∧OwL w0 0 (intsV s) r h3∧RdrAt w0 D b (intsS s) h2∧D+(h2+h3)=h'):=by
 have hl2:(intS s).left.length≤1000000000000:=by have:=takeS_len s 8; unfold intS; omega
 refine zN Tryz.func54 G Tryz.ntmps54 Tryz.results54 G fun fr=>?_
 repeat (first|refine zF ?_|refine zB ?_|refine zE ?_|refine zK G G G ?_)
 refine zY G G (zQ G G G) (getInt_spec w0 D b s h hr hl) ?_
 rintro _ _ ⟨h2,rfl,hr2,rfl⟩
 obtain ⟨a,c,rfl,hrd,hc⟩:=id hr2
 generalize hs1:intS s=s1 at *
 obtain ⟨left,bad⟩:=s1
 repeat (first|refine zF ?_|refine zB ?_|refine zE ?_|refine zK G G G ?_|refine zZ G G G G G ?_|refine L_ld G G G G G ?_)
 have bad_end:intsOk s=false→∀ {g:Env} {L R:Hp},look g 2=some (.slice none 0 0)→L=D+pt b (.cells [.slice none 0 0,.bool true].toArray 186 (0,0))+fr+R →
   ∃ vs h R',ResOk Tryz.prog w0 g L [.tmp 2] vs∧(∃ a c h2 h3,oneV vs=.slice a (intsV s).length c∧OwL w0 0 (intsV s) (oneV vs) h3∧RdrAt w0 D b (intsS s) h2∧D+(h2+h3)=h)∧L=h+fr+R':=by
  intro hno g L R hg hL
  refine ⟨[_],_,R,⟨hg,trivial⟩,⟨none,0,_,0,?_,?_,?_,rfl⟩,by rw [yB]; exact hL⟩
  ·simp only [intsV,hno]; rfl
  ·simp only [intsV,hno]; exact OwL.nil _ _
  ·simp only [intsS,hno]; exact rdr_bad w0 D b
 cases bad
 ·repeat (refine zK G G G ?_)
  refine yG G G (pv_lss G G) (fun h1=>?_) (fun h1=>?_)
  ·have hno:intsOk s=false:=by simp [intsOk,hs1]; omega
   repeat (first|refine zF ?_|refine zB ?_|refine zE ?_|refine zK G G G ?_|refine L_skip G G ?_|refine zJ G ?_)
   refine zY G G (zQ G G G) (fail_spec w0 b (.slice a left.length c) (.bool false)) ?_
   rintro _ _ ⟨rfl,rfl⟩
   repeat (first|refine zF ?_|refine zB ?_|refine zE ?_|refine zK G G G ?_|refine zM ?_)
   exact bad_end hno G yK.out
  ·repeat (first|refine zK G G G ?_|refine zZ G G G G G ?_|refine L_ld G G G G G ?_|refine L_len G G G ?_)
   refine yH G G (pv_quo_nn G G (by omega) (by simp only at hl2 ⊢; omega) (by omega)) ?_
   refine yG G G (pv_gtr G G) (fun h3=>?_) (fun h3=>?_)
   ·have hno:intsOk s=false:=by simp only [intsOk,hs1]; simp; intro _; simpa using h3
    repeat (first|refine zF ?_|refine zB ?_|refine zE ?_|refine zK G G G ?_|refine zJ G ?_)
    refine zY G G (zQ G G G) (fail_spec w0 b (.slice a left.length c) (.bool false)) ?_
    rintro _ _ ⟨rfl,rfl⟩
    repeat (first|refine zF ?_|refine zB ?_|refine zE ?_|refine zK G G G ?_|refine zM ?_)
    exact bad_end hno G yK.out
   ·have hyes:intsOk s=true:=by simp only [intsOk,hs1]; simp only [Bool.not_false,Bool.true_and,decide_eq_true_eq]; exact ⟨by omega,by have h3':¬ ((left.length:Int) / 8<intV s):=h3; show intV s≤(left.length:Int) / 8; omega⟩
    obtain ⟨k,hk⟩:=Int.eq_ofNat_of_zero_le (show 0≤intV s by omega)
    have hl3:left.length≤1000000000000:=hl2
    have h3':¬ ((left.length:Int) / 8<intV s):=h3
    have hkl:k≤1000000000000:=by omega
    rw [hk]
    repeat (first|refine zF ?_|refine zB ?_|refine zE ?_|refine zK G G G ?_|refine zP ?_|refine zI G ?_)
    refine L_eff G G (ev_makeSlice (n:=k) G G G (by omega) (by omega)) ?_
    rintro _ _ ⟨b4,rfl,rfl⟩
    rw [ints_made]
    repeat (first|refine zF ?_|refine zR ?_|refine zB ?_|refine zE ?_|refine zK G G G ?_|refine L_len G G G ?_)
    refine hold_count k (fun j g L=>∃ (h5 R:Hp),g=[(0,.pointer (some ⟨b,0,none⟩)),(4,.slice (some ⟨b4,0,none⟩) k k),(31,.int .i64 k),(32,.int .i64 j)] ∧
      RdrAt w0 D b (many (fun s=>(intV s,intS s)) j ⟨left,false⟩).2 h5∧L=D+h5+intsAt b4 ((many (fun s=>(intV s,intS s)) j ⟨left,false⟩).1++List.replicate (k - j) 0)+fr+R) _
     ⟨_,0,rfl,⟨a,c,rfl,hrd,hc⟩,by simp only [many,List.nil_append,Nat.sub_zero,yB]; ac_rfl⟩ (by repeat (first|exact zT _|refine zO G ?_)) ?_
    rintro j g L hj ⟨h5,R,rfl,hr5,rfl⟩
    have hml:(many (fun s=>(intV s,intS s)) j ⟨left,false⟩).2.left.length≤left.length:=many_len (f:=fun s=>(intV s,intS s)) (fun s=>takeS_len s 8) j ⟨left,false⟩
    have hmn:=many_length (fun s=>(intV s,intS s)) j ⟨left,false⟩
    repeat (first|refine zF ?_|refine zB ?_)
    refine yG G G (pv_lss G G) (fun h6=>?_) (fun h6=>?_)
    ·have hx:j<k:=by omega
     repeat (first|refine zF ?_|refine zR ?_|refine zB ?_|refine zE ?_|refine zK G G G ?_|refine zP ?_|refine zJ G ?_)
     refine zY G G (zQ G G G) (getInt_spec w0 D b _ h5 hr5 (by simp only at hl2; omega)) ?_
     rintro _ _ ⟨h7,rfl,hr7,rfl⟩
     repeat (refine L_idx G G (by omega) G G ?_)
     have hll:j<((many (fun s=>(intV s,intS s)) j ⟨left,false⟩).1++List.replicate (k - j) 0).length:=by rw [List.length_append,hmn,List.length_replicate]; omega
     have hset:((many (fun s=>(intV s,intS s)) j ⟨left,false⟩).1++List.replicate (k - j) 0).set j (intV (many (fun s=>(intV s,intS s)) j ⟨left,false⟩).2)=(many (fun s=>(intV s,intS s)) (j+1) ⟨left,false⟩).1++List.replicate (k - (j+1)) 0:=by
      rw [List.set_append_right _ _ (by omega),hmn,Nat.sub_self,show k - j=(k - (j+1))+1 by omega,List.replicate_succ,List.set_cons_zero]
      simp [many]
     have hrw:=intsAt_set (b:=b4) hll (intV (many (fun s=>(intV s,intS s)) j ⟨left,false⟩).2)
     rw [hset] at hrw
     unfold intsAt
     refine L_st G G (row_get0 (j:=0) (enc1_len1 _) [] (enc1_at hll) G) hrw G G G ?_
     repeat (first|refine zB ?_|refine zE ?_|refine zK G G G ?_|refine L_add G G (by omega) (by omega) G G ?_)
     exact ⟨hx,_,(by repeat (first|exact zT _|refine zO G ?_)),h7,_,rfl,hr7,yK.out⟩
    ·obtain rfl:j=k:=by omega
     repeat (first|refine zF ?_|refine yD ?_|refine zB ?_|refine zE ?_|refine zK G G G ?_|refine zM ?_|refine zI G ?_)
     have hv:intsV s=(many (fun s=>(intV s,intS s)) j ⟨left,false⟩).1:=by simp only [intsV,hyes,if_true,hk,hs1,Int.toNat_natCast]
     have hs:intsS s=(many (fun s=>(intV s,intS s)) j ⟨left,false⟩).2:=by simp only [intsS,hyes,if_true,hk,hs1,Int.toNat_natCast]
     rw [Nat.sub_self,List.replicate_zero,List.append_nil]
     have hrow:=intsAt_row (b:=b4) (l:=(many (fun s=>(intV s,intS s)) j ⟨left,false⟩).1) (by omega)
     rw [hmn] at hrow
     exact ⟨[_],D+(h5+_),_,⟨rfl,trivial⟩,⟨_,_,h5,_,by rw [hv,hmn]; rfl,by rw [hv]; exact owL_ints.2 hrow,by rw [hs]; exact hr5,rfl⟩,yK.out⟩
 ·have hno:intsOk s=false:=by simp [intsOk,hs1]
  repeat (first|refine zF ?_|refine zB ?_|refine zE ?_|refine zK G G G ?_|refine L_skip G G ?_|refine zJ G ?_)
  refine zY G G (zQ G G G) (fail_spec w0 b (.slice a left.length c) (.bool true)) ?_
  rintro _ _ ⟨rfl,rfl⟩
  repeat (first|refine zF ?_|refine zB ?_|refine zE ?_|refine zK G G G ?_|refine zM ?_)
  exact bad_end hno G yK.out
end Sl
end Go.Proofs.YtpkealohodeifaaGreat
namespace Go.Proofs.YtpkealohodeifaaGreat
open Go Go.RowKit
namespace Sl
set_option maxHeartbeats 4000000
set_option maxRecDepth 4000
attribute [local irreducible] Hold HoldL HoldW
theorem bool_T {p:Prop} [Decidable p] (h:p):Value.bool true=.bool (decide p):=by rw [decide_eq_true h]
theorem bool_F {p:Prop} [Decidable p] (h:¬ p):Value.bool false=.bool (decide p):=by rw [decide_eq_false h]
abbrev cellsO (o:Opn) (p r w d:Value):List Value:=[.int .i64 o.kind,.int .i64 o.client,.int .i64 o.seq,.int .i64 o.txn,.int .i64 o.age,.int .i64 o.epoch,.int .i64 o.lo,.int .i64 o.hi,.int .i64 o.block,.int .i64 o.snap,.int .i64 o.value,.int .i64 o.src,.int .i64 o.dst,p,r,w,d]
theorem in21_spec (w0:World) (v a b:Int):Spec Tryz.prog w0 113 [.int .i64 v,.int .i64 a,.int .i64 b] 0 (fun r h'=>r=.bool (decide (a≤v∧v≤b))∧0=h'):=by
 refine zN Tryz.func113 G Tryz.ntmps113 Tryz.results113 G fun fr=>?_
 repeat' (first|refine zF ?_|refine zB ?_|refine zE ?_|refine zK G G G ?_|refine L_skip G G ?_|refine zM ?_|refine yG G G (pv_leq G G) (fun _=>?_) (fun _=>?_)|refine yG G G (pv_geq G G) (fun _=>?_) (fun _=>?_)|exact ⟨[_],0,_,⟨rfl,trivial⟩,⟨by first|exact bool_T (by omega)|exact bool_F (by omega),rfl⟩,yK.out⟩|done)
def SpanP (o:Opn):Prop:=(o.kind=2→o.snap=0→o.lo=0∧o.hi=0)∧((o.kind=2∧o.snap≠0)∨o.kind=5∨o.kind=6∨o.kind=9→0≤o.lo∧o.lo<o.hi∧o.hi≤64)
instance (o:Opn):Decidable (SpanP o):=by unfold SpanP; infer_instance
theorem span21_spec (w0:World) (o:Opn) (p r w d:Value):Spec Tryz.prog w0 171 [.agg (cellsO o p r w d).toArray] 0 (fun r h'=>r=.bool (decide (SpanP o))∧0=h'):=by
 refine zN Tryz.func171 G Tryz.ntmps171 Tryz.results171 G fun fr=>?_
 repeat' (first|refine zF ?_|refine zR ?_|refine zB ?_|refine zE ?_|refine zK G G G ?_|refine zZ G G G G G ?_|refine L_ld G G G G G ?_|refine L_skip G G ?_|refine zP ?_|refine zM ?_|refine zJ G ?_|refine zI G ?_|refine L_box G (c:=[_,_,_,_,_,_,_,_,_,_,_,_,_,_,_,_,_]) G G G (fun _=>?_)|refine yG G G (pv_lss G G) (fun _=>?_) (fun _=>?_)|refine yG G G (pv_leq G G) (fun _=>?_) (fun _=>?_)|refine yG G G (pv_geq G G) (fun _=>?_) (fun _=>?_)|refine L_yes G G (pv_eql G G) (by omega) ?_|refine L_no G G (pv_eql G G) (by omega) ?_|refine yG G G (pv_eql G G) (fun _=>?_) (fun _=>?_)|exact ⟨[_],0,_,⟨rfl,trivial⟩,⟨by unfold SpanP; first|exact bool_T (by omega)|exact bool_F (by omega),rfl⟩,yK.out⟩|done)
theorem blocksOf_spec (w0:World) (X:Hp) (o:Opn) (p r d:Value) (a:Option Addr) (c:Nat) (hv:RdL w0 X (.slice a o.writes.length c) o.writes) (hl:o.writes.length≤1000000000) :
  Spec Tryz.prog w0 112 [.agg (cellsO o p r (.slice a o.writes.length c) d).toArray] X (fun r h'=>∃ h,OwL w0 0 (o.writes.map Wr.block) r h∧X+h=h'):=by
 refine zN Tryz.func112 G Tryz.ntmps112 Tryz.results112 G fun fr=>?_
 repeat (first|refine zF ?_|refine zR ?_|refine zB ?_|refine zE ?_|refine zK G G G ?_|refine zZ G G G G G ?_|refine L_ld G G G G G ?_|refine L_len G G G ?_|refine L_box G (c:=[_,_,_,_,_,_,_,_,_,_,_,_,_,_,_,_,_]) G G G (fun _=>?_))
 refine hold_count o.writes.length (fun k g L=>∃ (vo:Value) (h R:Hp),g=[(3,vo),(7,.slice a o.writes.length c),(8,.int .i64 o.writes.length),(9,.int .i64 k)]∧OwL w0 0 ((o.writes.take k).map Wr.block) vo h∧L=X+h+fr+R) _
  ⟨.slice none 0 0,0,_,rfl,OwL.nil _ _,by simp only [yB]; exact yK.out⟩ (by repeat (first|exact zT _|refine zO G ?_)) ?_
 rintro k g L hk ⟨vo,h,R,rfl,ho,rfl⟩
 repeat (first|refine zF ?_|refine zB ?_)
 refine yG G G (pv_lss G G) (fun h2=>?_) (fun h2=>?_)
 ·have hx:k<o.writes.length:=by omega
  obtain ⟨b2,o2,rfl,e,⟨a3,c3,rfl,hdat⟩,hat⟩:=hv.at hx
  repeat (first|refine zF ?_|refine zR ?_|refine zB ?_|refine zE ?_|refine zK G G G ?_|refine zZ G G G G G ?_|refine L_ld G G G G G ?_|refine zP ?_|refine zJ G ?_|refine L_idx G G (by omega) G G ?_|refine L_atA G (by assumption) G G G G ?_|refine L_stA G (vs:=[_,_]) G G G G (c':=[_,_]) G G ?_|refine L_alloc (c:=[_,_]) G G G (fun _=>?_)|refine L_bs (vs:=[_]) (cells:=[_]) G G G G G G (fun _=>?_))
  refine L_eff G G (ev_appendL (X:=0) (ns:=[o.writes[k].block]) (h:=h) G G ho (rd_one G) (All2.one G) G G G G G (by simp only [List.length_map,List.length_take,List.length_singleton]; omega)) ?_
  rintro vo' _ ⟨h',ho',rfl⟩
  repeat (first|refine zB ?_|refine zE ?_|refine zK G G G ?_|refine L_add G G (by omega) (by omega) G G ?_)
  exact ⟨hx,_,(by repeat (first|exact zT _|refine zO G ?_)),vo',h',_,rfl,by rw [List.take_succ_eq_append_getElem hx,List.map_append]; exact ho',yK.out⟩
 ·rw [List.take_of_length_le (by omega)] at ho
  repeat (first|refine zF ?_|refine yD ?_|refine zB ?_|refine zE ?_|refine zK G G G ?_|refine zM ?_|refine zI G ?_)
  exact ⟨[_],X+h,_,⟨rfl,trivial⟩,⟨h,ho,rfl⟩,yK.out⟩
def InAll (l:List Int) (a b:Int):Prop:=∀ x∈l,a≤x∧x≤b
instance (l:List Int) (a b:Int):Decidable (InAll l a b):=by unfold InAll; infer_instance
theorem within1_spec (w0:World) (v a b:Int) (b1 b2:Nat):Spec Tryz.prog w0 173 [.int .i64 v,.pointer (some ⟨b1,0,none⟩),.pointer (some ⟨b2,0,none⟩)] (int1 b1 a+int1 b2 b)
  (fun r h'=>r=.bool (decide (¬ (a≤v∧v≤b)))∧int1 b1 a+int1 b2 b=h'):=by
 refine zN Tryz.func173 G Tryz.ntmps173 Tryz.results173 G fun fr=>?_
 repeat (first|refine zF ?_|refine zB ?_|refine zE ?_|refine zK G G G ?_|refine L_ld G G G G G ?_)
 refine L_callD G G (zQ G G G) (in21_spec w0 v a b) (fun h=>?_) (fun h=>?_)
 ·repeat (first|refine zE ?_|refine zK G G G ?_|refine zM ?_)
  exact ⟨[_],_,_,⟨rfl,trivial⟩,⟨bool_F (by omega),rfl⟩,yK.out⟩
 ·repeat (first|refine zE ?_|refine zK G G G ?_|refine zM ?_)
  exact ⟨[_],_,_,⟨rfl,trivial⟩,⟨bool_T (by omega),rfl⟩,yK.out⟩
theorem within_spec (w0:World) (X:Hp) (v:Value) (l:List Int) (a b:Int) (hv:RdL w0 X v l) (hl:l.length≤1000000000) :
  Spec Tryz.prog w0 116 [v,.int .i64 a,.int .i64 b] X (fun r h'=>r=.bool (decide (InAll l a b))∧X=h'):=by
 obtain ⟨ad,c,rfl⟩:=hv.shape
 refine zN Tryz.func116 G Tryz.ntmps116 Tryz.results116 G fun fr=>?_
 repeat (first|refine zF ?_|refine zB ?_|refine zE ?_|refine zK G G G ?_|refine L_box G (c:=[_]) G G G (fun _=>?_)|refine L_clo G G G ?_)
 rename_i b1 b2
 refine zY G G (zQ G G G) (containsFuncI_spec w0 (X+(int1 b1 a+int1 b2 b)) _ l 173 [.pointer (some ⟨b1,0,none⟩),.pointer (some ⟨b2,0,none⟩)] (fun v=>decide (¬ (a≤v∧v≤b))) (hv.frame) hl (fun x hx=>Spec.frameL (hadd_comm _ _) (within1_spec w0 x a b b1 b2))) ?_
 rintro _ _ ⟨rfl,rfl⟩
 repeat (first|refine zE ?_|refine zK G G G ?_|refine zM ?_)
 refine ⟨[_],X,_,⟨rfl,trivial⟩,⟨congrArg Value.bool ?_,rfl⟩,yK.out⟩
 by_cases h:InAll l a b
 ·rw [decide_eq_true h,List.any_eq_false.2 (fun x hx=>by have:=h x hx; simp [this.1,this.2])]; rfl
 ·rw [decide_eq_false h]
  have:l.any (fun v=>decide (¬ (a≤v∧v≤b)))=true:=by
   rw [List.any_eq_true]
   refine Classical.byContradiction fun hn=>h fun x hx=>Classical.byContradiction fun hx2=>hn ⟨x,hx,decide_eq_true hx2⟩
  rw [this]; rfl
def Rises (l:List Int):Prop:=l.Pairwise (·<·)
instance (l:List Int):Decidable (Rises l):=by unfold Rises; infer_instance
theorem rises_take {l:List Int} {k:Nat} (h:Rises (l.take k)) (hk:k<l.length) (h2:∀ h:0<k,l[k - 1]<l[k]):Rises (l.take (k+1)):=by
 rw [List.take_succ_eq_append_getElem hk]
 unfold Rises at h ⊢
 rw [List.pairwise_append]
 refine ⟨h,by simp,fun x hx y hy=>?_⟩
 rw [List.mem_singleton] at hy; subst hy
 obtain ⟨j,hj,rfl⟩:=List.getElem_of_mem hx
 rw [List.length_take] at hj
 rw [List.getElem_take]
 have h3:=h2 (by omega)
 rcases Nat.lt_or_ge j (k - 1) with hlt|hge
 ·have:=(List.pairwise_iff_getElem.1 h) j (k - 1) (by rw [List.length_take]; omega) (by rw [List.length_take]; omega) hlt
  rw [List.getElem_take,List.getElem_take] at this
  omega
 ·have:j=k - 1:=by omega
  subst this; exact h3
theorem rises_spec (w0:World) (X:Hp) (v:Value) (l:List Int) (hv:RdL w0 X v l) (hl:l.length≤1000000000) :
  Spec Tryz.prog w0 119 [v] X (fun r h'=>r=.bool (decide (Rises l))∧X=h'):=by
 obtain ⟨a,c,rfl⟩:=hv.shape
 refine zN Tryz.func119 G Tryz.ntmps119 Tryz.results119 G fun fr=>?_
 repeat (first|refine zF ?_|refine zR ?_|refine zB ?_|refine zE ?_|refine zK G G G ?_)
 refine hold_count l.length (fun k g L=>∃ R:Hp,g=[(0,.slice a l.length c),(3,.int .i64 ((k:Int)+1))]∧Rises (l.take (k+1))∧L=X+fr+R) _ ⟨0,rfl,by
  cases l with
  | nil=>exact List.Pairwise.nil
  | cons x l=>simp [Rises],by simp only [yB]⟩ (by repeat (first|exact zT _|refine zO G ?_)) ?_
 rintro k g L hk ⟨R,rfl,hr,rfl⟩
 repeat (first|refine zF ?_|refine zB ?_|refine zK G G G ?_|refine L_len G G G ?_)
 refine yG G G (pv_lss G G) (fun h2=>?_) (fun h2=>?_)
 ·have hx:k<l.length:=by omega
  have hx1:k+1<l.length:=by omega
  obtain ⟨b2,o2,rfl,e,rfl,hat⟩:=hv.at hx
  obtain ⟨b3,o3,e3,e',rfl,hat3⟩:=hv.at hx1
  cases e3
  rw [show (k:Int)+1=((k+1:Nat):Int) by omega]
  repeat (first|refine zF ?_|refine zR ?_|refine zE ?_|refine zP ?_|refine zJ G ?_)
  refine yC [] [0,1,2,3,4,5,6,7,8,9] (by kernel_rfl) G (by kernel_rfl) (by kernel_rfl) ?_
  repeat (refine yI G G G G G ?_)
  refine yE G G G G (pv_sub G G (by omega) (by omega)) ?_
  rw [show ((k+1:Nat):Int) - 1=(k:Int) by omega]
  repeat (first|refine yI G G G G G ?_|refine W_idx G G G (by omega) G G G ?_|refine W_at G G (by assumption) G G G G G ?_)
  refine W_dec G G G G (pv_geq G G) (fun h3=>?_) (fun h3=>?_)
  ·repeat (refine yJ ?_)
   repeat (first|refine zF ?_|refine zB ?_|refine zE ?_|refine zK G G G ?_|refine zM ?_|refine zJ G ?_)
   refine ⟨[_],X,_,⟨rfl,trivial⟩,⟨bool_F ?_,rfl⟩,yK.out⟩
   intro hall
   have:=(List.pairwise_iff_getElem.1 hall) k (k+1) hx hx1 (by omega)
   omega
  ·repeat (refine yJ ?_)
   repeat (first|refine zB ?_|refine zE ?_|refine zK G G G ?_|refine zP ?_|refine zI G ?_|refine L_add G G (by omega) (by omega) G G ?_)
   exact ⟨hx,_,(by repeat (first|exact zT _|refine zO G ?_)),_,rfl,rises_take hr hx1 (fun _=>by simpa using h3),yK.out⟩
 ·rw [List.take_of_length_le (by omega)] at hr
  repeat (first|refine zF ?_|refine yD ?_|refine zB ?_|refine zE ?_|refine zK G G G ?_|refine zM ?_|refine zI G ?_)
  exact ⟨[_],X,_,⟨rfl,trivial⟩,⟨bool_T hr,rfl⟩,yK.out⟩
def Placed1 (o:Opn):Prop:=(0≤o.client∧o.client≤4)∧(0≤o.seq∧o.seq≤1099511627776)∧(0≤o.txn∧o.txn≤1099511627776)∧(0≤o.age∧o.age≤1099511627776)∧(0≤o.epoch∧o.epoch≤1099511627776)∧(0≤o.snap∧o.snap≤1099511627776)
instance (o:Opn):Decidable (Placed1 o):=by unfold Placed1; infer_instance
def Placed2 (o:Opn):Prop:=(o.kind=1∨o.kind=2∨o.kind=3→1≤o.txn)∧(o.kind=4→1≤o.snap)∧(o.kind=9→(1≤o.src∧o.src≤4)∧(1≤o.dst∧o.dst≤4))∧(o.kind=11→1≤o.dst∧o.dst≤7)
instance (o:Opn):Decidable (Placed2 o):=by unfold Placed2; infer_instance
def Placed3 (o:Opn):Prop:=(o.kind=3∨o.kind=11→1≤o.value∧o.value≤2)∧(0≤o.block∧o.block≤63)
instance (o:Opn):Decidable (Placed3 o):=by unfold Placed3; infer_instance
def PlacedP (o:Opn):Prop:=Placed1 o∧Placed2 o∧Placed3 o∧SpanP o∧(o.kind=2→0<o.parts.length)
instance (o:Opn):Decidable (PlacedP o):=by unfold PlacedP; infer_instance
abbrev five (o:Opn):List Int:=[o.seq,o.txn,o.age,o.epoch,o.snap]
def PlK (o:Opn) (k:Nat):Prop:=(0≤o.client∧o.client≤4)∧∀ x∈(five o).take k,0≤x∧x≤1099511627776
instance (o:Opn) (k:Nat):Decidable (PlK o k):=by unfold PlK; infer_instance
theorem plK_succ (o:Opn) (k:Nat) (hk:k<(five o).length):PlK o (k+1)↔PlK o k∧(0≤(five o)[k]∧(five o)[k]≤1099511627776):=by
 unfold PlK
 rw [List.take_succ_eq_append_getElem hk]
 constructor
 ·rintro ⟨h1,h2⟩
  exact ⟨⟨h1,fun x hx=>h2 x (List.mem_append_left _ hx)⟩,h2 _ (List.mem_append_right _ (by simp))⟩
 ·rintro ⟨⟨h1,h2⟩,h3⟩
  refine ⟨h1,fun x hx=>?_⟩
  rcases List.mem_append.1 hx with hx|hx
  ·exact h2 x hx
  ·rw [List.mem_singleton] at hx; subst hx; exact h3
theorem plK_all (o:Opn):PlK o 5↔Placed1 o:=by
 unfold PlK Placed1
 rw [List.take_of_length_le (by simp)]
 simp only [five,List.mem_cons,List.not_mem_nil,or_false,forall_eq_or_imp,forall_eq]
theorem subD {g:Env} {i j:Nat} {v:Value} {p:Prop} [Decidable p] (h1:look g i=some v) (h3:look g j=some (.bool true)) (hp:p):Sub g [(i,v),(j,.bool (decide p))]:=by
 rw [decide_eq_true hp]; exact zO h1 (zO h3 (zT _))
theorem subE {g:Env} {i j:Nat} {v:Value} {p:Prop} [Decidable p] (h1:look g i=some v) (h3:look g j=some (.bool false)) (hp:¬ p):Sub g [(i,v),(j,.bool (decide p))]:=by
 rw [decide_eq_false hp]; exact zO h1 (zO h3 (zT _))
theorem placed21_spec (w0:World) (o:Opn) (a:Option Addr) (c:Nat) (r w d:Value):Spec Tryz.prog w0 115 [.agg (cellsO o (.slice a o.parts.length c) r w d).toArray] 0 (fun r h'=>r=.bool (decide (PlacedP o))∧0=h'):=by
 have hin:=in21_spec w0
 have hspan:=span21_spec w0 o (.slice a o.parts.length c) r w d
 refine zN Tryz.func115 G Tryz.ntmps115 Tryz.results115 G fun fr=>?_
 repeat (first|refine zF ?_|refine zB ?_|refine zE ?_|refine zK G G G ?_|refine zZ G G G G G ?_|refine L_ld G G G G G ?_|refine L_box G (c:=[_,_,_,_,_,_,_,_,_,_,_,_,_,_,_,_,_]) G G G (fun _=>?_))
 refine L_callV G G (zQ G G G) (hin o.client 0 4) ?_
 repeat (first|refine zF ?_|refine zR ?_|refine zB ?_|refine zE ?_|refine zK G G G ?_|refine zZ G G G G G ?_|refine L_ld G G G G G ?_|refine L_len G G G ?_|refine L_bs (vs:=[_,_,_,_,_]) (cells:=[_,_,_,_,_]) G G G G G G (fun _=>?_))
 rename_i b1 b19
 have hI:pt b19 (.cells [.int .i64 o.seq,.int .i64 o.txn,.int .i64 o.age,.int .i64 o.epoch,.int .i64 o.snap].toArray 3 (0,0))=intsAt b19 (five o):=rfl
 rw [hI]
 have hv:RdL w0 (intsAt b19 (five o)) (.slice (some ⟨b19,0,none⟩) 5 5) (five o):=rdL_ints.2 ((intsAt_row (by simp)).rd (R:=0))
 have h0:decide (0≤o.client∧o.client≤4)=decide (PlK o 0):=decide_eq_decide.2 (by unfold PlK; simp)
 rw [h0]
 refine hold_count 5 (fun k g L=>∃ R:Hp,g=[(1,.pointer (some ⟨b1,0,none⟩)),(3,.bool (decide (PlK o k))),(19,.slice (some ⟨b19,0,none⟩) 5 5),(20,.int .i64 (5:Nat)),(21,.int .i64 k)] ∧
   L=intsAt b19 (five o)+pt b1 (.cells (cellsO o (.slice a o.parts.length c) r w d).toArray 49 (0,0))+fr+R) _
  ⟨0,rfl,by simp only [yB,hzero_add]; ac_rfl⟩ (by repeat (first|exact zT _|refine zO G ?_)) ?_
 rintro k g L hk ⟨R,rfl,rfl⟩
 repeat (first|refine zF ?_|refine zB ?_)
 refine yG G G (pv_lss G G) (fun h2=>?_) (fun h2=>?_)
 ·have hx:k<(five o).length:=by show k<5; omega
  obtain ⟨b2,o2,e3,e,rfl,hat⟩:=hv.at hx
  cases e3
  have hs:=plK_succ o k hx
  repeat (first|refine zF ?_|refine zR ?_|refine zB ?_|refine zE ?_|refine zK G G G ?_|refine zP ?_|refine zJ G ?_|refine L_idx G G (by omega) G G ?_|refine L_at G (by assumption) G G G G ?_)
  by_cases hp:PlK o k
  ·rw [decide_eq_true hp]
   repeat (refine zK G G G ?_)
   refine L_callV G G (zQ G G G) (hin _ 0 1099511627776) ?_
   rw [show decide (0≤(five o)[k]∧(five o)[k]≤1099511627776)=decide (PlK o (k+1)) from decide_eq_decide.2 (by rw [hs]; simp [hp])]
   repeat (first|refine zB ?_|refine zE ?_|refine zK G G G ?_|refine L_add G G (by omega) (by omega) G G ?_)
   exact ⟨by omega,_,(by repeat (first|exact zT _|refine zO G ?_)),_,rfl,yK.out⟩
  ·rw [decide_eq_false hp]
   repeat (first|refine zB ?_|refine zE ?_|refine zK G G G ?_|refine L_skip G G ?_|refine L_add G G (by omega) (by omega) G G ?_)
   exact ⟨by omega,[(1,.pointer (some ⟨b1,0,none⟩)),(3,.bool false),(19,.slice (some ⟨b19,0,none⟩) 5 5),(20,.int .i64 (5:Nat)),(21,.int .i64 ((k+1:Nat):Int))],(by repeat (first|exact zT _|refine zO G ?_)),_,by rw [decide_eq_false (fun h=>hp (hs.1 h).1)],yK.out⟩
 ·obtain rfl:k=5:=by omega
  rw [show decide (PlK o 5)=decide (Placed1 o) from decide_eq_decide.2 (plK_all o)]
  clear hv h0 hI
  repeat (first|refine zF ?_|refine yD ?_|refine zB ?_|refine zE ?_|refine zZ G G G G G ?_|refine L_ld G G G G G ?_|refine zI G ?_)
  refine hold_join (fun g' L'=>∃ (R:Hp),Sub g' [(1,.pointer (some ⟨b1,0,none⟩)),(3,.bool (decide (Placed1 o∧Placed2 o)))]∧L'=pt b1 (.cells (cellsO o (.slice a o.parts.length c) r w d).toArray 49 (0,0))+fr+R) ?_ ?_
  ·by_cases h1:Placed1 o
   ·rw [decide_eq_true h1]
    refine zR ?_
    repeat' (first|refine zF ?_|refine zB ?_|refine zE ?_|refine zK G G G ?_|refine zZ G G G G G ?_|refine L_ld G G G G G ?_|refine zP ?_|refine zJ G ?_|refine zI G ?_|refine yG G G (pv_geq G G) (fun _=>?_) (fun _=>?_)|refine yG G G (pv_eql G G) (fun _=>?_) (fun _=>?_)|exact ⟨_,by first|exact subD G G (by refine ⟨h1,?_⟩; unfold Placed2; omega)|exact subE G G (fun h=>by have:=h.2; unfold Placed2 at this; omega),yK.out⟩|done)
    ·refine L_callD G G (zQ G G G) (hin o.src 1 4) (fun h3=>?_) (fun h3=>?_)
     ·repeat (first|refine zK G G G ?_|refine zZ G G G G G ?_|refine L_ld G G G G G ?_)
      refine L_callD G G (zQ G G G) (hin o.dst 1 4) (fun h4=>?_) (fun h4=>?_)
      ·repeat' (first|refine zE ?_|refine zK G G G ?_|exact ⟨_,by first|exact subD G G (by refine ⟨h1,?_⟩; unfold Placed2; omega)|exact subE G G (fun h=>by have:=h.2; unfold Placed2 at this; omega),yK.out⟩|done)
      ·repeat' (first|refine zE ?_|refine zK G G G ?_|exact ⟨_,by first|exact subD G G (by refine ⟨h1,?_⟩; unfold Placed2; omega)|exact subE G G (fun h=>by have:=h.2; unfold Placed2 at this; omega),yK.out⟩|done)
     ·repeat' (first|refine zE ?_|refine zK G G G ?_|refine L_skip G G ?_|exact ⟨_,by first|exact subD G G (by refine ⟨h1,?_⟩; unfold Placed2; omega)|exact subE G G (fun h=>by have:=h.2; unfold Placed2 at this; omega),yK.out⟩|done)
    ·refine L_callD G G (zQ G G G) (hin o.dst 1 7) (fun h3=>?_) (fun h3=>?_)
     ·repeat' (first|refine zE ?_|refine zK G G G ?_|exact ⟨_,by first|exact subD G G (by refine ⟨h1,?_⟩; unfold Placed2; omega)|exact subE G G (fun h=>by have:=h.2; unfold Placed2 at this; omega),yK.out⟩|done)
     ·repeat' (first|refine zE ?_|refine zK G G G ?_|exact ⟨_,by first|exact subD G G (by refine ⟨h1,?_⟩; unfold Placed2; omega)|exact subE G G (fun h=>by have:=h.2; unfold Placed2 at this; omega),yK.out⟩|done)
   ·rw [decide_eq_false h1]
    refine zR ?_
    repeat' (first|refine zF ?_|refine zB ?_|refine zE ?_|refine zK G G G ?_|refine L_skip G G ?_|refine zP ?_|refine zJ G ?_|refine zI G ?_|refine yG G G (pv_eql G G) (fun _=>?_) (fun _=>?_)|exact ⟨_,subE G G (fun h=>h1 h.1),yK.out⟩|done)
  ·rintro g' _ ⟨R,hsub,rfl⟩
   refine hold_env hsub ?_
   clear hsub g'
   refine zF ?_
   refine hold_join (fun g' L'=>∃ (R:Hp),Sub g' [(1,.pointer (some ⟨b1,0,none⟩)),(3,.bool (decide ((Placed1 o∧Placed2 o)∧(o.kind=3∨o.kind=11→1≤o.value∧o.value≤2))))]∧L'=pt b1 (.cells (cellsO o (.slice a o.parts.length c) r w d).toArray 49 (0,0))+fr+R) ?_ ?_
   ·by_cases h1:Placed1 o∧Placed2 o
    ·rw [decide_eq_true h1]
     repeat' (first|refine zF ?_|refine zB ?_|refine zE ?_|refine zK G G G ?_|refine zZ G G G G G ?_|refine L_ld G G G G G ?_|refine L_skip G G ?_|refine zP ?_|refine zJ G ?_|refine zI G ?_|refine yG G G (pv_eql G G) (fun _=>?_) (fun _=>?_)|exact ⟨_,by first|exact subD G G ⟨h1,by omega⟩|exact subE G G (fun h=>by have:=h.2; omega),yK.out⟩|done)
     all_goals
      refine L_callD G G (zQ G G G) (hin o.value 1 2) (fun h3=>?_) (fun h3=>?_)
      ·repeat' (first|refine zE ?_|refine zK G G G ?_|exact ⟨_,by first|exact subD G G ⟨h1,by omega⟩|exact subE G G (fun h=>by have:=h.2; omega),yK.out⟩|done)
      ·repeat' (first|refine zE ?_|refine zK G G G ?_|exact ⟨_,by first|exact subD G G ⟨h1,by omega⟩|exact subE G G (fun h=>by have:=h.2; omega),yK.out⟩|done)
    ·rw [decide_eq_false h1]
     repeat' (first|refine zF ?_|refine zB ?_|refine zE ?_|refine zK G G G ?_|refine zZ G G G G G ?_|refine L_ld G G G G G ?_|refine L_skip G G ?_|refine zP ?_|refine zJ G ?_|refine zI G ?_|refine yG G G (pv_eql G G) (fun _=>?_) (fun _=>?_)|exact ⟨_,subE G G (fun h=>h1 h.1),yK.out⟩|done)
   ·rintro g' _ ⟨R2,hsub,rfl⟩
    refine hold_env hsub ?_
    clear hsub g'
    by_cases h1:(Placed1 o∧Placed2 o)∧(o.kind=3∨o.kind=11→1≤o.value∧o.value≤2)
    ·rw [decide_eq_true h1]
     repeat (first|refine zF ?_|refine zB ?_|refine zK G G G ?_|refine zZ G G G G G ?_|refine L_ld G G G G G ?_)
     refine L_callD G G (zQ G G G) (hin o.block 0 63) (fun h3=>?_) (fun h3=>?_)
     ·repeat (first|refine zK G G G ?_|refine L_ldA G (vs:=[_,_,_,_,_,_,_,_,_,_,_,_,_,_,_,_,_]) G G G G G ?_)
      refine L_callD G G (zQ G G G) hspan (fun h4=>?_) (fun h4=>?_)
      ·repeat' (first|refine zE ?_|refine zK G G G ?_|refine zZ G G G G G ?_|refine L_ld G G G G G ?_|refine L_len G G G ?_|refine L_skip G G ?_|refine zM ?_|refine yG G G (pv_gtr G G) (fun _=>?_) (fun _=>?_)|refine yG G G (pv_neq G G) (fun _=>?_) (fun _=>?_)|exact ⟨[_],0,_,⟨rfl,trivial⟩,⟨by first|exact bool_T (by refine ⟨h1.1.1,h1.1.2,⟨h1.2,by omega⟩,by assumption,by omega⟩)|exact bool_F (by rintro ⟨_,_,⟨_,_⟩,_,_⟩; first|omega|contradiction),rfl⟩,yK.out⟩|done)
      ·repeat' (first|refine zE ?_|refine zK G G G ?_|refine L_skip G G ?_|refine zM ?_|exact ⟨[_],0,_,⟨rfl,trivial⟩,⟨by first|exact bool_T (by refine ⟨h1.1.1,h1.1.2,⟨h1.2,by omega⟩,by assumption,by omega⟩)|exact bool_F (by rintro ⟨_,_,⟨_,_⟩,_,_⟩; first|omega|contradiction),rfl⟩,yK.out⟩|done)
     ·repeat' (first|refine zE ?_|refine zK G G G ?_|refine L_skip G G ?_|refine zM ?_|exact ⟨[_],0,_,⟨rfl,trivial⟩,⟨by first|exact bool_T (by refine ⟨h1.1.1,h1.1.2,⟨h1.2,by omega⟩,by assumption,by omega⟩)|exact bool_F (by rintro ⟨_,_,⟨_,_⟩,_,_⟩; first|omega|contradiction),rfl⟩,yK.out⟩|done)
    ·rw [decide_eq_false h1]
     repeat (first|refine zF ?_|refine zB ?_|refine zE ?_|refine zK G G G ?_|refine L_skip G G ?_|refine zM ?_)
     exact ⟨[_],0,_,⟨rfl,trivial⟩,⟨bool_F (by rintro ⟨k1,k2,⟨k3,_⟩,_,_⟩; exact h1 ⟨⟨k1,k2⟩,k3⟩),rfl⟩,yK.out⟩
end Sl
end Go.Proofs.YtpkealohodeifaaGreat
namespace Go.Proofs.YtpkealohodeifaaGreat
open Go Go.RowKit
namespace Sl
set_option maxHeartbeats 8000000
set_option maxRecDepth 4000
attribute [local irreducible] Hold HoldL HoldW
def I64 (n:Int):Prop:=-9223372036854775808≤n∧n≤9223372036854775807
instance (n:Int):Decidable (I64 n):=by unfold I64; infer_instance
theorem or64_in (a b:Int):I64 (or64 a b):=by
 unfold or64 I64
 rw [i64_wrap]
 split<;>omega
theorem ofInt_zero (a:Int) (h:I64 a):BitVec.ofInt 64 a=0↔a=0:=by
 constructor
 ·intro e
  have:=congrArg BitVec.toInt e
  rw [BitVec.toInt_ofInt] at this
  unfold I64 at h
  rw [Int.bmod_def] at this
  simp at this
  omega
 ·rintro rfl; rfl
theorem or64_zero (a b:Int) (ha:I64 a) (hb:I64 b):or64 a b=0↔a=0∧b=0:=by
 unfold or64
 show IntKind.i64.wrap ((BitVec.ofInt 64 a ||| BitVec.ofInt 64 b).toNat:Int)=0↔_
 have hlt:=(BitVec.ofInt 64 a ||| BitVec.ofInt 64 b).isLt
 have h1:IntKind.i64.wrap ((BitVec.ofInt 64 a ||| BitVec.ofInt 64 b).toNat:Int)=0↔(BitVec.ofInt 64 a ||| BitVec.ofInt 64 b).toNat=0:=by
  rw [i64_wrap]
  split<;>omega
 rw [h1]
 have h2:(BitVec.ofInt 64 a ||| BitVec.ofInt 64 b).toNat=0↔BitVec.ofInt 64 a ||| BitVec.ofInt 64 b=0#64:=by
  constructor
  ·intro h; exact BitVec.eq_of_toNat_eq (by rw [h]; rfl)
  ·intro h; rw [h]; rfl
 rw [h2,BitVec.or_eq_zero_iff]
 exact and_congr (ofInt_zero a ha) (ofInt_zero b hb)
def fieldsK (k:Int):List Nat :=
 if k=1 then [3,4,5,8] else if k=2 then [3,4,5,9,6,7] else if k=3 then [3,10] else if k=4 then [9,5,8] else if k=5∨k=6 then [5,6,7] else if k=7∨k=10 then [5]
 else if k=9 then [11,12,6,7] else if k=11 then [12,10] else []
def zeroAt (cs:List Value) (l:List Nat):List Value:=l.foldl (fun cs i=>cs.set i (.int .i64 0)) cs
theorem zeroAt_length (l:List Nat):∀ cs,(zeroAt cs l).length=cs.length:=by
 induction l with
 | nil=>intro cs; rfl
 | cons i l ih=>intro cs; show (zeroAt (cs.set i _) l).length=_; rw [ih,List.length_set]
theorem bare1_spec (w0:World) (b i:Nat) (cs:List Value) (hi:i<cs.length) :
  Spec Tryz.prog w0 170 [.pointer (some ⟨b,i,none⟩)] (pt b (.cells cs.toArray 49 (0,0))) (fun r h'=>pt b (.cells (cs.set i (.int .i64 0)).toArray 49 (0,0))=h'):=by
 refine zN Tryz.func170 G Tryz.ntmps170 Tryz.results170 G fun fr=>?_
 repeat (first|refine zB ?_|refine zK G G G ?_)
 refine L_st G G (List.getElem?_eq_getElem hi) G G G G ?_
 repeat (refine zE ?_)
 exact ⟨[],_,_,trivial,rfl,yK.out⟩
theorem ptrs_at {w0:World} {bs b:Nat} {t:TypeId} {offs:List Nat} {k:Nat} (h:k<offs.length):At w0 (pt bs (.cells (offs.map fun i=>Value.pointer (some ⟨b,i,none⟩)).toArray t (0,0))) bs (0+k*1) [.pointer (some ⟨b,offs[k],none⟩)]:=by
 intro j u hu
 cases j with
 | succ j=>simp at hu
 | zero =>
  simp only [List.getElem?_cons_zero,Option.some.injEq] at hu
  subst hu
  refine zS (R:=0) ?_
  simp [h]
theorem numbers_spec (w0:World) (b:Nat) (cs:List Value) (k:Int) (hlen:cs.length=17) (h0:cs[0]?=some (.int .i64 k)) (hk:1≤k∧k≤11) :
  Spec Tryz.prog w0 169 [.pointer (some ⟨b,0,none⟩),.func (.func 170) #[] #[]] (pt b (.cells cs.toArray 49 (0,0)))
   (fun r h'=>pt b (.cells (zeroAt cs (fieldsK k)).toArray 49 (0,0))=h'):=by
 have hcase:k=1∨k=2∨k=3∨k=4∨k=5∨k=6∨k=7∨k=8∨k=9∨k=10∨k=11:=by omega
 have hfl:∀ i∈fieldsK k,i<17:=by
  rcases hcase with rfl|rfl|rfl|rfl|rfl|rfl|rfl|rfl|rfl|rfl|rfl<;>decide
 refine zN Tryz.func169 G Tryz.ntmps169 Tryz.results169 G fun fr=>?_
 repeat (first|refine zF ?_|refine zB ?_|refine zE ?_|refine zK G G G ?_|refine zZ G G G G G ?_)
 refine L_ld G h0 G G G ?_
 repeat (refine zE ?_)
 refine hold_join (fun g' L'=>∃ (vs:Value) (n:Nat) (hs R:Hp),Sub g' [(1,.func (.func 170) #[] #[]),(5,vs)]∧n=(fieldsK k).length∧((vs=.slice none 0 0∧n=0)∨∃ bs,vs=.slice (some ⟨bs,0,none⟩) n n∧hs=pt bs (.cells ((fieldsK k).map fun i=>Value.pointer (some ⟨b,i,none⟩)).toArray 206 (0,0))) ∧
   L'=pt b (.cells cs.toArray 49 (0,0))+hs+fr+R) ?_ ?_
 ·refine zR ?_
  rcases hcase with rfl|rfl|rfl|rfl|rfl|rfl|rfl|rfl|rfl|rfl|rfl
  ·repeat' (first|refine zF ?_|refine zB ?_|refine zE ?_|refine zK G G G ?_|refine zJ G ?_|refine L_yes G G (pv_eql G G) (by omega) ?_|done)
   refine yC [12] [0,1,2,3,4,5,6,7,8,9,10,11,12,13] (by kernel_rfl) G (by kernel_rfl) (by kernel_rfl) ?_
   repeat (first|refine yI G G G G G ?_|refine yE G G G G (yA G G G) ?_)
   refine W_eff G G G G (ev_buildSlice (vs:=[_,_,_,_]) (cells:=[_,_,_,_]) G G G G) (Kept.all _) ?_
   rintro _ _ ⟨bn,rfl,rfl⟩
   refine ⟨trivial,?_⟩
   repeat (first|refine yJ ?_|refine yI G G G G G ?_)
   skip
   exact ⟨_,4,pt bn (.cells [.pointer (some ⟨b,0+3,none⟩),.pointer (some ⟨b,0+4,none⟩),.pointer (some ⟨b,0+5,none⟩),.pointer (some ⟨b,0+8,none⟩)].toArray 206 (0,0)),_,(by repeat (first|exact zT _|refine zO G ?_)),rfl,.inr ⟨bn,rfl,rfl⟩,yK.out⟩
  ·repeat' (first|refine zF ?_|refine zB ?_|refine zE ?_|refine zK G G G ?_|refine zJ G ?_|refine zI G ?_|refine L_yes G G (pv_eql G G) (by omega) ?_|refine L_no G G (pv_eql G G) (by omega) ?_|done)
   refine yC [18] [0,1,2,3,4,5,6,7,8,9,10,11,12,13,14,15,16,17,18,19] (by kernel_rfl) G (by kernel_rfl) (by kernel_rfl) ?_
   repeat (first|refine yI G G G G G ?_|refine yE G G G G (yA G G G) ?_)
   refine W_eff G G G G (ev_buildSlice (vs:=[_,_,_,_,_,_]) (cells:=[_,_,_,_,_,_]) G G G G) (Kept.all _) ?_
   rintro _ _ ⟨bn,rfl,rfl⟩
   refine ⟨trivial,?_⟩
   repeat (first|refine yJ ?_|refine yI G G G G G ?_)
   skip
   exact ⟨_,6,pt bn (.cells [.pointer (some ⟨b,0+3,none⟩),.pointer (some ⟨b,0+4,none⟩),.pointer (some ⟨b,0+5,none⟩),.pointer (some ⟨b,0+9,none⟩),.pointer (some ⟨b,0+6,none⟩),.pointer (some ⟨b,0+7,none⟩)].toArray 206 (0,0)),_,(by repeat (first|exact zT _|refine zO G ?_)),rfl,.inr ⟨bn,rfl,rfl⟩,yK.out⟩
  ·repeat' (first|refine zF ?_|refine zB ?_|refine zE ?_|refine zK G G G ?_|refine zJ G ?_|refine zI G ?_|refine L_yes G G (pv_eql G G) (by omega) ?_|refine L_no G G (pv_eql G G) (by omega) ?_|done)
   refine yC [6] [0,1,2,3,4,5,6,7] (by kernel_rfl) G (by kernel_rfl) (by kernel_rfl) ?_
   repeat (first|refine yI G G G G G ?_|refine yE G G G G (yA G G G) ?_)
   refine W_eff G G G G (ev_buildSlice (vs:=[_,_]) (cells:=[_,_]) G G G G) (Kept.all _) ?_
   rintro _ _ ⟨bn,rfl,rfl⟩
   refine ⟨trivial,?_⟩
   repeat (first|refine yJ ?_|refine yI G G G G G ?_)
   skip
   exact ⟨_,2,pt bn (.cells [.pointer (some ⟨b,0+3,none⟩),.pointer (some ⟨b,0+10,none⟩)].toArray 206 (0,0)),_,(by repeat (first|exact zT _|refine zO G ?_)),rfl,.inr ⟨bn,rfl,rfl⟩,yK.out⟩
  ·repeat' (first|refine zF ?_|refine zB ?_|refine zE ?_|refine zK G G G ?_|refine zJ G ?_|refine zI G ?_|refine L_yes G G (pv_eql G G) (by omega) ?_|refine L_no G G (pv_eql G G) (by omega) ?_|done)
   refine yC [9] [0,1,2,3,4,5,6,7,8,9,10] (by kernel_rfl) G (by kernel_rfl) (by kernel_rfl) ?_
   repeat (first|refine yI G G G G G ?_|refine yE G G G G (yA G G G) ?_)
   refine W_eff G G G G (ev_buildSlice (vs:=[_,_,_]) (cells:=[_,_,_]) G G G G) (Kept.all _) ?_
   rintro _ _ ⟨bn,rfl,rfl⟩
   refine ⟨trivial,?_⟩
   repeat (first|refine yJ ?_|refine yI G G G G G ?_)
   skip
   exact ⟨_,3,pt bn (.cells [.pointer (some ⟨b,0+9,none⟩),.pointer (some ⟨b,0+5,none⟩),.pointer (some ⟨b,0+8,none⟩)].toArray 206 (0,0)),_,(by repeat (first|exact zT _|refine zO G ?_)),rfl,.inr ⟨bn,rfl,rfl⟩,yK.out⟩
  ·repeat' (first|refine zF ?_|refine zB ?_|refine zE ?_|refine zK G G G ?_|refine zP ?_|refine zJ G ?_|refine zI G ?_|refine L_yes G G (pv_eql G G) (by omega) ?_|refine L_no G G (pv_eql G G) (by omega) ?_|done)
   refine yC [9] [0,1,2,3,4,5,6,7,8,9,10] (by kernel_rfl) G (by kernel_rfl) (by kernel_rfl) ?_
   repeat (first|refine yI G G G G G ?_|refine yE G G G G (yA G G G) ?_)
   refine W_eff G G G G (ev_buildSlice (vs:=[_,_,_]) (cells:=[_,_,_]) G G G G) (Kept.all _) ?_
   rintro _ _ ⟨bn,rfl,rfl⟩
   refine ⟨trivial,?_⟩
   repeat (first|refine yJ ?_|refine yI G G G G G ?_)
   skip
   exact ⟨_,3,pt bn (.cells [.pointer (some ⟨b,0+5,none⟩),.pointer (some ⟨b,0+6,none⟩),.pointer (some ⟨b,0+7,none⟩)].toArray 206 (0,0)),_,(by repeat (first|exact zT _|refine zO G ?_)),rfl,.inr ⟨bn,rfl,rfl⟩,yK.out⟩
  ·repeat' (first|refine zF ?_|refine zB ?_|refine zE ?_|refine zK G G G ?_|refine zJ G ?_|refine zI G ?_|refine L_yes G G (pv_eql G G) (by omega) ?_|refine L_no G G (pv_eql G G) (by omega) ?_|done)
   refine yC [9] [0,1,2,3,4,5,6,7,8,9,10] (by kernel_rfl) G (by kernel_rfl) (by kernel_rfl) ?_
   repeat (first|refine yI G G G G G ?_|refine yE G G G G (yA G G G) ?_)
   refine W_eff G G G G (ev_buildSlice (vs:=[_,_,_]) (cells:=[_,_,_]) G G G G) (Kept.all _) ?_
   rintro _ _ ⟨bn,rfl,rfl⟩
   refine ⟨trivial,?_⟩
   repeat (first|refine yJ ?_|refine yI G G G G G ?_)
   skip
   exact ⟨_,3,pt bn (.cells [.pointer (some ⟨b,0+5,none⟩),.pointer (some ⟨b,0+6,none⟩),.pointer (some ⟨b,0+7,none⟩)].toArray 206 (0,0)),_,(by repeat (first|exact zT _|refine zO G ?_)),rfl,.inr ⟨bn,rfl,rfl⟩,yK.out⟩
  ·repeat' (first|refine zF ?_|refine zB ?_|refine zE ?_|refine zK G G G ?_|refine zZ G G G G G ?_|refine zP ?_|refine zJ G ?_|refine zI G ?_|refine L_bs (vs:=[_]) (cells:=[_]) G G G G G G (fun _=>?_)|refine L_yes G G (pv_eql G G) (by omega) ?_|refine L_no G G (pv_eql G G) (by omega) ?_|done)
   rename_i bn
   exact ⟨_,1,pt bn (.cells [.pointer (some ⟨b,0+5,none⟩)].toArray 206 (0,0)),_,(by repeat (first|exact zT _|refine zO G ?_)),rfl,.inr ⟨bn,rfl,rfl⟩,yK.out⟩
  ·repeat' (first|refine zF ?_|refine zB ?_|refine zE ?_|refine zK G G G ?_|refine zP ?_|refine zJ G ?_|refine zI G ?_|refine L_yes G G (pv_eql G G) (by omega) ?_|refine L_no G G (pv_eql G G) (by omega) ?_|done)
   exact ⟨_,0,0,_,(by repeat (first|exact zT _|refine zO G ?_)),rfl,.inl ⟨rfl,rfl⟩,yK.out⟩
  ·repeat' (first|refine zF ?_|refine zB ?_|refine zE ?_|refine zK G G G ?_|refine zJ G ?_|refine zI G ?_|refine L_yes G G (pv_eql G G) (by omega) ?_|refine L_no G G (pv_eql G G) (by omega) ?_|done)
   refine yC [12] [0,1,2,3,4,5,6,7,8,9,10,11,12,13] (by kernel_rfl) G (by kernel_rfl) (by kernel_rfl) ?_
   repeat (first|refine yI G G G G G ?_|refine yE G G G G (yA G G G) ?_)
   refine W_eff G G G G (ev_buildSlice (vs:=[_,_,_,_]) (cells:=[_,_,_,_]) G G G G) (Kept.all _) ?_
   rintro _ _ ⟨bn,rfl,rfl⟩
   refine ⟨trivial,?_⟩
   repeat (first|refine yJ ?_|refine yI G G G G G ?_)
   skip
   exact ⟨_,4,pt bn (.cells [.pointer (some ⟨b,0+11,none⟩),.pointer (some ⟨b,0+12,none⟩),.pointer (some ⟨b,0+6,none⟩),.pointer (some ⟨b,0+7,none⟩)].toArray 206 (0,0)),_,(by repeat (first|exact zT _|refine zO G ?_)),rfl,.inr ⟨bn,rfl,rfl⟩,yK.out⟩
  ·repeat' (first|refine zF ?_|refine zB ?_|refine zE ?_|refine zK G G G ?_|refine zZ G G G G G ?_|refine zJ G ?_|refine zI G ?_|refine L_bs (vs:=[_]) (cells:=[_]) G G G G G G (fun _=>?_)|refine L_yes G G (pv_eql G G) (by omega) ?_|refine L_no G G (pv_eql G G) (by omega) ?_|done)
   rename_i bn
   exact ⟨_,1,pt bn (.cells [.pointer (some ⟨b,0+5,none⟩)].toArray 206 (0,0)),_,(by repeat (first|exact zT _|refine zO G ?_)),rfl,.inr ⟨bn,rfl,rfl⟩,yK.out⟩
  ·repeat' (first|refine zF ?_|refine zB ?_|refine zE ?_|refine zK G G G ?_|refine zJ G ?_|refine zI G ?_|refine L_yes G G (pv_eql G G) (by omega) ?_|refine L_no G G (pv_eql G G) (by omega) ?_|done)
   refine yC [6] [0,1,2,3,4,5,6,7] (by kernel_rfl) G (by kernel_rfl) (by kernel_rfl) ?_
   repeat (first|refine yI G G G G G ?_|refine yE G G G G (yA G G G) ?_)
   refine W_eff G G G G (ev_buildSlice (vs:=[_,_]) (cells:=[_,_]) G G G G) (Kept.all _) ?_
   rintro _ _ ⟨bn,rfl,rfl⟩
   refine ⟨trivial,?_⟩
   repeat (first|refine yJ ?_|refine yI G G G G G ?_)
   skip
   exact ⟨_,2,pt bn (.cells [.pointer (some ⟨b,0+12,none⟩),.pointer (some ⟨b,0+10,none⟩)].toArray 206 (0,0)),_,(by repeat (first|exact zT _|refine zO G ?_)),rfl,.inr ⟨bn,rfl,rfl⟩,yK.out⟩
 ·rintro g' _ ⟨vs,n,hs,R,hsub,hn,hvs,rfl⟩
  refine hold_env hsub ?_
  clear hsub g'
  have hn6:(fieldsK k).length≤6:=by unfold fieldsK; (repeat' split)<;>simp
  rcases hvs with ⟨rfl,hn0⟩|⟨bs,rfl,rfl⟩
  ·have hnil:fieldsK k=[]:=List.eq_nil_of_length_eq_zero (by omega)
   have hz:zeroAt cs (fieldsK k)=cs:=by rw [hnil]; rfl
   rw [hz]
   repeat (first|refine zF ?_|refine zR ?_|refine zB ?_|refine zE ?_|refine zK G G G ?_|refine L_len G G G ?_)
   refine hold_loop_of (holdR ?_)
   repeat (first|refine zF ?_|refine zB ?_)
   refine L_no G G (pv_lss G G) (by decide) ?_
   repeat (first|refine zF ?_|refine yD ?_|refine zB ?_|refine zE ?_|refine zK G G G ?_|refine zM ?_|refine zI G ?_)
   exact ⟨[_],_,_,⟨rfl,trivial⟩,rfl,yK.out⟩
  ·repeat (first|refine zF ?_|refine zR ?_|refine zB ?_|refine zE ?_|refine zK G G G ?_|refine L_len G G G ?_)
   refine hold_count n (fun j g L=>∃ R:Hp,g=[(1,.func (.func 170) #[] #[]),(115,.slice (some ⟨bs,0,none⟩) n n),(116,.int .i64 n),(117,.int .i64 j)] ∧
     L=pt b (.cells (zeroAt cs ((fieldsK k).take j)).toArray 49 (0,0))+pt bs (.cells ((fieldsK k).map fun i=>Value.pointer (some ⟨b,i,none⟩)).toArray 206 (0,0))+fr+R) _
    ⟨_,rfl,rfl⟩ (by repeat (first|exact zT _|refine zO G ?_)) ?_
   clear R
   rintro j g L hj ⟨R,rfl,rfl⟩
   repeat (first|refine zF ?_|refine zB ?_)
   refine yG G G (pv_lss G G) (fun h2=>?_) (fun h2=>?_)
   ·have hx:j<(fieldsK k).length:=by omega
    have hat:=ptrs_at (w0:=w0) (bs:=bs) (b:=b) (t:=206) (offs:=fieldsK k) hx
    repeat (first|refine zF ?_|refine zR ?_|refine zB ?_|refine zE ?_|refine zK G G G ?_|refine zP ?_|refine zJ G ?_|refine L_idx G G (by omega) G G ?_|refine L_at G (by assumption) G G G G ?_)
    refine zY G G (zQ G G G) (bare1_spec w0 b ((fieldsK k)[j]) (zeroAt cs ((fieldsK k).take j)) (by rw [zeroAt_length,hlen]; exact hfl _ (List.getElem_mem hx))) ?_
    rintro _ _ rfl
    have hz2:(zeroAt cs ((fieldsK k).take j)).set (fieldsK k)[j] (.int .i64 0)=zeroAt cs ((fieldsK k).take (j+1)):=by
     rw [List.take_succ_eq_append_getElem hx,zeroAt,zeroAt,List.foldl_append]; rfl
    rw [hz2]
    repeat (first|refine zB ?_|refine zE ?_|refine zK G G G ?_|refine L_add G G (by omega) (by omega) G G ?_)
    exact ⟨by omega,_,(by repeat (first|exact zT _|refine zO G ?_)),_,rfl,yK.out⟩
   ·rw [List.take_of_length_le (by omega)]
    repeat (first|refine zF ?_|refine yD ?_|refine zB ?_|refine zE ?_|refine zK G G G ?_|refine zM ?_|refine zI G ?_)
    exact ⟨[_],_,_,⟨rfl,trivial⟩,rfl,yK.out⟩
def zf (k:Int) (i:Nat) (x:Int):Int:=if (fieldsK k).contains i=true then 0 else x
theorem zeroAt_cells (o:Opn) (p r w d:Value) (hk:1≤o.kind∧o.kind≤11):zeroAt (cellsO o p r w d) (fieldsK o.kind)=[.int .i64 o.kind,.int .i64 o.client,.int .i64 o.seq,.int .i64 (zf o.kind 3 o.txn),.int .i64 (zf o.kind 4 o.age),.int .i64 (zf o.kind 5 o.epoch),.int .i64 (zf o.kind 6 o.lo),.int .i64 (zf o.kind 7 o.hi),.int .i64 (zf o.kind 8 o.block),.int .i64 (zf o.kind 9 o.snap),.int .i64 (zf o.kind 10 o.value),.int .i64 (zf o.kind 11 o.src),.int .i64 (zf o.kind 12 o.dst),p,r,w,d]:=by
 obtain ⟨k,o1,o2,o3,o4,o5,o6,o7,o8,o9,o10,o11,o12,o13,o14,o15,o16⟩:=o
 have hk':1≤k∧k≤11:=hk
 have hcase:k=1∨k=2∨k=3∨k=4∨k=5∨k=6∨k=7∨k=8∨k=9∨k=10∨k=11:=by omega
 rcases hcase with rfl|rfl|rfl|rfl|rfl|rfl|rfl|rfl|rfl|rfl|rfl<;>rfl
abbrev or10 (a0 a1 a2 a3 a4 a5 a6 a7 a8 a9:Int):Int:=or64 (or64 (or64 (or64 (or64 (or64 (or64 (or64 (or64 a0 a1) a2) a3) a4) a5) a6) a7) a8) a9
theorem or10_zero {a0 a1 a2 a3 a4 a5 a6 a7 a8 a9:Int} (h0:I64 a0) (h1:I64 a1) (h2:I64 a2) (h3:I64 a3) (h4:I64 a4) (h5:I64 a5) (h6:I64 a6) (h7:I64 a7) (h8:I64 a8) (h9:I64 a9) :
  or10 a0 a1 a2 a3 a4 a5 a6 a7 a8 a9=0↔a0=0∧a1=0∧a2=0∧a3=0∧a4=0∧a5=0∧a6=0∧a7=0∧a8=0∧a9=0:=by
 unfold or10
 rw [or64_zero _ _ (or64_in _ _) h9,or64_zero _ _ (or64_in _ _) h8,or64_zero _ _ (or64_in _ _) h7,or64_zero _ _ (or64_in _ _) h6,or64_zero _ _ (or64_in _ _) h5,or64_zero _ _ (or64_in _ _) h4,or64_zero _ _ (or64_in _ _) h3,or64_zero _ _ (or64_in _ _) h2,or64_zero _ _ h0 h1]
 simp only [and_assoc]
def NumsIn (o:Opn):Prop:=I64 o.client∧I64 o.seq∧I64 o.txn∧I64 o.age∧I64 o.epoch∧I64 o.lo∧I64 o.hi∧I64 o.block∧I64 o.snap∧I64 o.value∧I64 o.src∧I64 o.dst
theorem zf_in {k:Int} {i:Nat} {x:Int} (h:I64 x):I64 (zf k i x):=by
 unfold zf
 split
 ·decide
 ·exact h
def BareN (o:Opn):Prop:=zf o.kind 3 o.txn=0∧zf o.kind 4 o.age=0∧zf o.kind 5 o.epoch=0∧zf o.kind 9 o.snap=0∧zf o.kind 6 o.lo=0∧zf o.kind 7 o.hi=0∧zf o.kind 8 o.block=0∧zf o.kind 10 o.value=0∧zf o.kind 11 o.src=0∧zf o.kind 12 o.dst=0
def BareP (o:Opn):Prop:=BareN o∧(o.parts.length+o.reads.length+o.writes.length=0∨o.kind=2)∧(o.data.length=0∨o.kind=6)
instance (o:Opn):Decidable (BareN o):=by unfold BareN; infer_instance
instance (o:Opn):Decidable (BareP o):=by unfold BareP; infer_instance
theorem bare21_spec (w0:World) (o:Opn) (a1 a2 a3 a4:Option Addr) (c1 c2 c3 c4:Nat) (hk:1≤o.kind∧o.kind≤11) (hn:NumsIn o) (hl:o.parts.length≤1000000000∧o.reads.length≤1000000000∧o.writes.length≤1000000000) :
  Spec Tryz.prog w0 114 [.agg (cellsO o (.slice a1 o.parts.length c1) (.slice a2 o.reads.length c2) (.slice a3 o.writes.length c3) (.slice a4 o.data.length c4)).toArray] 0 (fun r h'=>r=.bool (decide (BareP o))∧0=h'):=by
 have hnum:=fun b=>numbers_spec w0 b (cellsO o (.slice a1 o.parts.length c1) (.slice a2 o.reads.length c2) (.slice a3 o.writes.length c3) (.slice a4 o.data.length c4)) o.kind G G hk
 rw [zeroAt_cells o _ _ _ _ hk] at hnum
 obtain ⟨n1,n2,n3,n4,n5,n6,n7,n8,n9,n10,n11,n12⟩:=hn
 have hor:=or10_zero (zf_in (k:=o.kind) (i:=3) n3) (zf_in (k:=o.kind) (i:=4) n4) (zf_in (k:=o.kind) (i:=5) n5) (zf_in (k:=o.kind) (i:=9) n9) (zf_in (k:=o.kind) (i:=6) n6) (zf_in (k:=o.kind) (i:=7) n7) (zf_in (k:=o.kind) (i:=8) n8) (zf_in (k:=o.kind) (i:=10) n10) (zf_in (k:=o.kind) (i:=11) n11) (zf_in (k:=o.kind) (i:=12) n12)
 change _↔BareN o at hor
 refine zN Tryz.func114 G Tryz.ntmps114 Tryz.results114 G fun fr=>?_
 repeat (first|refine zF ?_|refine zB ?_|refine zE ?_|refine zK G G G ?_|refine L_box G (c:=[_,_,_,_,_,_,_,_,_,_,_,_,_,_,_,_,_]) G G G (fun _=>?_))
 refine zY G G (zQ G G G) (hnum _) ?_
 rintro _ _ rfl
 repeat (first|refine zF ?_|refine zB ?_|refine zE ?_|refine zZ G G G G G ?_|refine L_ld G G G G G ?_|refine L_len G G G ?_|refine L_add G G (by omega) (by omega) G G ?_)
 have fin:∀ {g:Env} {L R:Hp} (x:Bool),look g 2=some (.bool x)→x=decide (BareP o)→L=0+fr+R→∃ vs h R',ResOk Tryz.prog w0 g L [.tmp 2] vs∧(oneV vs=.bool (decide (BareP o))∧0=h)∧L=h+fr+R' :=
  fun x h1 h2 h3=>⟨[_],0,_,⟨h1,trivial⟩,⟨by rw [← h2]; rfl,rfl⟩,h3⟩
 by_cases hN:BareN o
 ·have h0:=hor.2 hN
  repeat' (first|refine L_yes G G (pv_eql G G) h0 ?_|refine zF ?_|refine zB ?_|refine zE ?_|refine zK G G G ?_|refine zZ G G G G G ?_|refine L_ld G G G G G ?_|refine L_len G G G ?_|refine L_skip G G ?_|refine zM ?_|refine L_or64 G G G G ?_|refine L_no G G (pv_eql G G) (by omega) ?_|refine yG G G (pv_eql G G) (fun _=>?_) (fun _=>?_)|exact fin _ rfl (by unfold BareP; first|exact (decide_eq_true ⟨hN,by omega,by omega⟩).symm|exact (decide_eq_false (fun h=>by have:=h.2; omega)).symm) yK.out|done)
 ·have h0:¬ _:=fun h=>hN (hor.1 h)
  repeat' (first|refine L_no G G (pv_eql G G) h0 ?_|refine zF ?_|refine zB ?_|refine zE ?_|refine zK G G G ?_|refine zZ G G G G G ?_|refine L_ld G G G G G ?_|refine L_skip G G ?_|refine zM ?_|refine L_or64 G G G G ?_|refine yG G G (pv_eql G G) (fun _=>?_) (fun _=>?_)|exact fin _ rfl (decide_eq_false (fun h=>hN h.1)).symm yK.out|done)
def WritesP (o:Opn):Prop:=∀ w∈o.writes,w.data.length=4
instance (o:Opn):Decidable (WritesP o):=by unfold WritesP; infer_instance
def checkF (o:Opn):Int :=
 if ¬ (1≤o.kind∧o.kind≤11) then 13
 else if ¬ BareP o then 14
 else if 4<o.parts.length∨16<o.reads.length∨8<o.writes.length then 17
 else if 32768<o.data.length then 2
 else if ¬ (PlacedP o∧InAll o.parts 1 4∧InAll o.reads 0 63∧InAll (o.writes.map Wr.block) 0 63) then 3
 else if ¬ WritesP o then 21
 else if ¬ (Rises o.parts∧Rises o.reads∧Rises (o.writes.map Wr.block)) then 15
 else 0
theorem check1_spec (w0:World) (w:Wr) (a:Option Addr) (c:Nat) (X:Hp):Spec Tryz.prog w0 118 [.agg [.int .i64 w.block,.slice a w.data.length c].toArray] X (fun r h'=>r=.bool (decide (w.data.length≠4))∧X=h'):=by
 refine zN Tryz.func118 G Tryz.ntmps118 Tryz.results118 G fun fr=>?_
 repeat' (first|refine zF ?_|refine zB ?_|refine zE ?_|refine zK G G G ?_|refine zZ G G G G G ?_|refine L_ld G G G G G ?_|refine L_len G G G ?_|refine zM ?_|refine L_box G (c:=[_,_]) G G G (fun _=>?_)|refine yG G G (pv_neq G G) (fun _=>?_) (fun _=>?_)|exact ⟨[_],X,_,⟨rfl,trivial⟩,⟨by first|exact bool_T (by omega)|exact bool_F (by omega),rfl⟩,yK.out⟩|done)
theorem check21_spec (w0:World) (X:Hp) (o:Opn) (e:List Value) (he:Rep.rd w0 X o e) (hn:NumsIn o) (hl:o.parts.length≤1000000000∧o.reads.length≤1000000000∧o.writes.length≤1000000000) :
  Spec Tryz.prog w0 31 [.agg e.toArray] X (fun r h'=>r=.int .i64 (checkF o)∧X=h'):=by
 obtain ⟨a1,c1,a2,c2,a3,c3,a4,c4,rfl,r1,r2,r3,r4⟩:=he
 have hblocks:=blocksOf_spec w0 X o (.slice a1 o.parts.length c1) (.slice a2 o.reads.length c2) (.slice a4 o.data.length c4) a3 c3 r3 hl.2.2
 have hcf:=containsFuncWr_spec w0 X (.slice a3 o.writes.length c3) o.writes 118 [] (fun w=>decide (w.data.length≠4)) r3 hl.2.2 (by rintro Y x e hx ⟨a,c,rfl,_⟩; exact check1_spec w0 x a c X)
 have hw:(o.writes.any fun w=>decide (w.data.length≠4))=decide (¬ WritesP o):=by
  by_cases h:WritesP o
  ·rw [decide_eq_false (not_not_intro h),List.any_eq_false.2 (fun x hx=>by simp [h x hx])]
  ·rw [decide_eq_true h,List.any_eq_true]
   exact Classical.byContradiction fun hn=>h fun x hx=>Classical.byContradiction fun hx2=>hn ⟨x,hx,decide_eq_true hx2⟩
 rw [hw] at hcf
 refine zN Tryz.func31 G Tryz.ntmps31 Tryz.results31 G fun fr=>?_
 repeat (first|refine zF ?_|refine zB ?_|refine zE ?_|refine zK G G G ?_|refine L_ldA G (vs:=[_,_,_,_,_,_,_,_,_,_,_,_,_,_,_,_,_]) G G G G G ?_|refine L_box G (c:=[_,_,_,_,_,_,_,_,_,_,_,_,_,_,_,_,_]) G G G (fun _=>?_))
 refine zY G G (zQ G G G) hblocks ?_
 rintro vb _ ⟨h,hob,rfl⟩
 obtain ⟨a5,c5,rfl⟩:=hob.shape
 have r5:RdL w0 (X+h) (.slice a5 (o.writes.map Wr.block).length c5) (o.writes.map Wr.block):=hob.rd (R:=X)
 have hbl:(o.writes.map Wr.block).length≤1000000000:=by rw [List.length_map]; exact hl.2.2
 have fin:∀ {g:Env} {L R:Hp} (x:Int),look g 2=some (.int .i64 x)→x=checkF o→L=X+fr+R→∃ vs h R',ResOk Tryz.prog w0 g L [.tmp 2] vs∧(oneV vs=.int .i64 (checkF o)∧X=h)∧L=h+fr+R' :=
  fun x h1 h2 h3=>⟨[_],X,_,⟨h1,trivial⟩,⟨by rw [← h2]; rfl,rfl⟩,h3⟩
 repeat (first|refine zF ?_|refine zR ?_|refine zB ?_|refine zE ?_|refine zK G G G ?_|refine zZ G G G G G ?_|refine L_ld G G G G G ?_)
 refine L_callD G G (zQ G G G) (in21_spec w0 o.kind 1 11) (fun k1=>?_) (fun k1=>?_)
 rotate_left
 ·repeat (first|refine zF ?_|refine zB ?_|refine zE ?_|refine zK G G G ?_|refine zM ?_|refine zJ G ?_)
  exact fin 13 rfl (by unfold checkF; rw [if_pos k1]) yK.out
 repeat (first|refine zF ?_|refine zB ?_|refine zE ?_|refine zK G G G ?_|refine zI G ?_|refine L_ldA G (vs:=[_,_,_,_,_,_,_,_,_,_,_,_,_,_,_,_,_]) G G G G G ?_)
 refine L_callD G G (zQ G G G) (bare21_spec w0 o a1 a2 a3 a4 c1 c2 c3 c4 k1 hn hl) (fun k2=>?_) (fun k2=>?_)
 rotate_left
 ·repeat (first|refine zF ?_|refine zB ?_|refine zE ?_|refine zK G G G ?_|refine zM ?_|refine zJ G ?_)
  exact fin 14 rfl (by unfold checkF; rw [if_neg (not_not_intro k1),if_pos k2]) yK.out
 repeat (first|refine zF ?_|refine zB ?_|refine zE ?_|refine zK G G G ?_|refine zZ G G G G G ?_|refine L_ld G G G G G ?_|refine L_len G G G ?_|refine zI G ?_)
 by_cases k3:4<o.parts.length∨16<o.reads.length∨8<o.writes.length
 ·repeat' (first|refine zF ?_|refine zB ?_|refine zE ?_|refine zK G G G ?_|refine zZ G G G G G ?_|refine L_ld G G G G G ?_|refine L_len G G G ?_|refine zP ?_|refine zM ?_|refine zJ G ?_|refine zI G ?_|refine L_yes G G (pv_gtr G G) (by omega) ?_|refine yG G G (pv_gtr G G) (fun _=>?_) (fun _=>?_)|exact fin 17 rfl (by unfold checkF; rw [if_neg (not_not_intro k1),if_neg (not_not_intro k2),if_pos k3]) yK.out|done)
 refine L_no G G (pv_gtr G G) (by omega) ?_
 repeat (first|refine zF ?_|refine zB ?_|refine zE ?_|refine zK G G G ?_|refine zZ G G G G G ?_|refine L_ld G G G G G ?_|refine L_len G G G ?_|refine zI G ?_)
 refine L_no G G (pv_gtr G G) (by omega) ?_
 repeat (first|refine zB ?_|refine zE ?_|refine zK G G G ?_|refine zZ G G G G G ?_|refine L_ld G G G G G ?_|refine L_len G G G ?_|refine zI G ?_)
 refine L_no G G (pv_gtr G G) (by omega) ?_
 repeat (first|refine zF ?_|refine zB ?_|refine zE ?_|refine zK G G G ?_|refine zZ G G G G G ?_|refine L_ld G G G G G ?_|refine L_len G G G ?_|refine zI G ?_)
 refine yG G G (pv_gtr G G) (fun k4=>?_) (fun k4=>?_)
 ·repeat (first|refine zF ?_|refine zB ?_|refine zE ?_|refine zK G G G ?_|refine zM ?_|refine zJ G ?_)
  exact fin 2 rfl (by unfold checkF; rw [if_neg (not_not_intro k1),if_neg (not_not_intro k2),if_neg k3,if_pos (by omega)]) yK.out
 have k4':¬ 32768<o.data.length:=by omega
 have c3':¬ (PlacedP o∧InAll o.parts 1 4∧InAll o.reads 0 63∧InAll (o.writes.map Wr.block) 0 63)→(3:Int)=checkF o:=fun k5=>by unfold checkF; rw [if_neg (not_not_intro k1),if_neg (not_not_intro k2),if_neg k3,if_neg k4',if_pos k5]
 repeat (first|refine zF ?_|refine zB ?_|refine zE ?_|refine zK G G G ?_|refine zI G ?_|refine L_ldA G (vs:=[_,_,_,_,_,_,_,_,_,_,_,_,_,_,_,_,_]) G G G G G ?_)
 refine L_callD G G (zQ G G G) (placed21_spec w0 o a1 c1 (.slice a2 o.reads.length c2) (.slice a3 o.writes.length c3) (.slice a4 o.data.length c4)) (fun k5=>?_) (fun k5=>?_)
 rotate_left
 ·repeat (first|refine zF ?_|refine zB ?_|refine zE ?_|refine zK G G G ?_|refine zP ?_|refine zM ?_|refine zJ G ?_)
  exact fin 3 rfl (c3' (fun h=>k5 h.1)) yK.out
 repeat (first|refine zF ?_|refine zB ?_|refine zE ?_|refine zK G G G ?_|refine zZ G G G G G ?_|refine L_ld G G G G G ?_|refine zI G ?_)
 refine L_callD G G (zQ G G G) (within_spec w0 X _ o.parts 1 4 r1 hl.1) (fun k6=>?_) (fun k6=>?_)
 rotate_left
 ·repeat (first|refine zF ?_|refine zB ?_|refine zE ?_|refine zK G G G ?_|refine zP ?_|refine zM ?_|refine zJ G ?_)
  exact fin 3 rfl (c3' (fun h=>k6 h.2.1)) yK.out
 repeat (first|refine zF ?_|refine zB ?_|refine zE ?_|refine zK G G G ?_|refine zZ G G G G G ?_|refine L_ld G G G G G ?_|refine zI G ?_)
 refine L_callD G G (zQ G G G) (within_spec w0 X _ o.reads 0 63 r2 hl.2.1) (fun k7=>?_) (fun k7=>?_)
 rotate_left
 ·repeat (first|refine zF ?_|refine zB ?_|refine zE ?_|refine zK G G G ?_|refine zP ?_|refine zM ?_|refine zJ G ?_)
  exact fin 3 rfl (c3' (fun h=>k7 h.2.2.1)) yK.out
 repeat (first|refine zB ?_|refine zE ?_|refine zK G G G ?_|refine zI G ?_)
 refine L_callD G G (zQ G G G) (within_spec w0 (X+h) _ (o.writes.map Wr.block) 0 63 r5 hbl) (fun k8=>?_) (fun k8=>?_)
 rotate_left
 ·repeat (first|refine zF ?_|refine zB ?_|refine zE ?_|refine zK G G G ?_|refine zM ?_|refine zJ G ?_)
  exact fin 3 rfl (c3' (fun h=>k8 h.2.2.2)) yK.out
 repeat (first|refine zF ?_|refine zB ?_|refine zE ?_|refine zK G G G ?_|refine zZ G G G G G ?_|refine L_ld G G G G G ?_|refine zI G ?_)
 refine L_callD G G (zQ G G G) hcf (fun k9=>?_) (fun k9=>?_)
 ·repeat (first|refine zF ?_|refine zB ?_|refine zE ?_|refine zK G G G ?_|refine zM ?_|refine zJ G ?_)
  exact fin 21 rfl (by unfold checkF; rw [if_neg (not_not_intro k1),if_neg (not_not_intro k2),if_neg k3,if_neg k4',if_neg (not_not_intro ⟨k5,k6,k7,k8⟩),if_pos k9]) yK.out
 have c15:¬ (Rises o.parts∧Rises o.reads∧Rises (o.writes.map Wr.block))→(15:Int)=checkF o:=fun ka=>by
  unfold checkF; rw [if_neg (not_not_intro k1),if_neg (not_not_intro k2),if_neg k3,if_neg k4',if_neg (not_not_intro ⟨k5,k6,k7,k8⟩),if_neg k9,if_pos ka]
 repeat (first|refine zF ?_|refine zB ?_|refine zE ?_|refine zK G G G ?_|refine zZ G G G G G ?_|refine L_ld G G G G G ?_|refine zI G ?_)
 refine L_callD G G (zQ G G G) (rises_spec w0 X _ o.parts r1 hl.1) (fun ka=>?_) (fun ka=>?_)
 rotate_left
 ·repeat (first|refine zF ?_|refine zB ?_|refine zE ?_|refine zK G G G ?_|refine zP ?_|refine zM ?_|refine zJ G ?_)
  exact fin 15 rfl (c15 (fun h=>ka h.1)) yK.out
 repeat (first|refine zF ?_|refine zB ?_|refine zE ?_|refine zK G G G ?_|refine zZ G G G G G ?_|refine L_ld G G G G G ?_|refine zI G ?_)
 refine L_callD G G (zQ G G G) (rises_spec w0 X _ o.reads r2 hl.2.1) (fun kb=>?_) (fun kb=>?_)
 rotate_left
 ·repeat (first|refine zF ?_|refine zB ?_|refine zE ?_|refine zK G G G ?_|refine zP ?_|refine zM ?_|refine zJ G ?_)
  exact fin 15 rfl (c15 (fun h=>kb h.2.1)) yK.out
 repeat (first|refine zB ?_|refine zE ?_|refine zK G G G ?_|refine zI G ?_)
 refine L_callD G G (zQ G G G) (rises_spec w0 (X+h) _ (o.writes.map Wr.block) r5 hbl) (fun kc=>?_) (fun kc=>?_)
 rotate_left
 ·repeat (first|refine zF ?_|refine zB ?_|refine zE ?_|refine zK G G G ?_|refine zM ?_|refine zJ G ?_)
  exact fin 15 rfl (c15 (fun h=>kc h.2.2)) yK.out
 repeat (first|refine zF ?_|refine zB ?_|refine zE ?_|refine zK G G G ?_|refine zP ?_|refine zM ?_|refine zI G ?_)
 exact fin 0 rfl (by unfold checkF; rw [if_neg (not_not_intro k1),if_neg (not_not_intro k2),if_neg k3,if_neg k4',if_neg (not_not_intro ⟨k5,k6,k7,k8⟩),if_neg k9,if_neg (not_not_intro ⟨ka,kb,kc⟩)]) yK.out
end Sl
end Go.Proofs.YtpkealohodeifaaGreat
namespace Go.Proofs.YtpkealohodeifaaGreat
open Go Go.RowKit
namespace Sl
set_option maxHeartbeats 8000000
set_option maxRecDepth 4000
attribute [local irreducible] Hold HoldL HoldW
theorem OwL.rdh {α:Type} [ρ:Rep α] {w0:World} {h:Hp} {v:Value} {xs:List α} (H:OwL w0 0 xs v h):RdL w0 h v xs:=H.rd (R:=0)
def blob (d:List Bt):List Bt:=be8 d.length++d
theorem blob_length (d:List Bt):(blob d).length=8+d.length:=by rw [blob,List.length_append,be8_length]
def encBlk (x:Blk):List Bt:=be8 x.no++blob x.data
def encKpt (x:Kpt):List Bt:=be8 x.snap++be8 x.no++blob x.data
def bit (b:Bool):Int:=if b=true then 1 else 0
def encLk (x:Lk):List Bt:=be8 x.block++be8 x.txn++be8 x.age++be8 (bit x.write)
def encWr (x:Wr):List Bt:=be8 x.block++blob x.data
def encL' {α:Type} (f:α→List Bt) (l:List α):List Bt:=be8 l.length++(l.map f).flatten
def encPrp (x:Prp):List Bt:=be8 x.txn++be8 x.age++be8 x.snap++be8 x.lo++be8 x.hi++encInts x.parts++encL' encWr x.writes
def encOut (x:Outp):List Bt:=be8 x.epoch++be8 x.lo++be8 x.hi++blob x.data
def encSes (x:Ses):List Bt:=be8 x.client++be8 x.seq++be8 x.res.code++blob x.res.data
def encShd (s:Shd):List Bt:=be8 s.lo++be8 s.hi++be8 s.epoch++encL' encBlk s.blocks++encL' encKpt s.kept++encL' encLk s.locks++encL' encPrp s.preps++encInts s.dead++encL' encOut s.outs++encL' encSes s.sess
section
variable {α:Type}
theorem flat_take (f:α→List Bt) {l:List α} {k:Nat} (hk:k<l.length):((l.take (k+1)).map f).flatten=((l.take k).map f).flatten++f l[k]:=by
 rw [List.take_succ_eq_append_getElem hk,List.map_append,List.flatten_append]; simp
theorem flat_le (f:α→List Bt) (l:List α) (k:Nat):((l.take k).map f).flatten.length≤(l.map f).flatten.length:=by
 conv=>rhs; rw [← List.take_append_drop k l,List.map_append,List.flatten_append,List.length_append]
 omega
theorem encL'_length (f:α→List Bt) (l:List α):(encL' f l).length=8+(l.map f).flatten.length:=by rw [encL',List.length_append,be8_length]
theorem len_flat (f:α→List Bt) (hf:∀ x,1≤(f x).length):∀ l:List α,l.length≤(l.map f).flatten.length
 | []=>by simp
 | x::l=>by
  have:=hf x
  have:=len_flat f hf l
  simp only [List.map_cons,List.flatten_cons,List.length_append,List.length_cons]
  omega
theorem flat_step (f:α→List Bt) {l:List α} {k:Nat} (hk:k<l.length):((l.take k).map f).flatten.length+(f l[k]).length≤(l.map f).flatten.length:=by
 have:=flat_le f l (k+1)
 rwa [flat_take f hk,List.length_append] at this
end
theorem numbers22_spec (w0:World) (X:Hp) (v u:Value) (b:List Bt) (l:List Int) (hv:RdL w0 X v b) (hu:RdL w0 X u l) (hl:b.length≤90000000000000) (hll:l.length≤10) (hpos:0<l.length) :
  Spec Tryz.prog w0 87 [v,u] X (fun r h'=>∃ h,OwL w0 0 (b++(l.map be8).flatten) r h∧X+h=h'):=by
 obtain ⟨a2,c2,rfl⟩:=hu.shape
 have hlen:∀ k,((l.take k).map be8).flatten.length≤8*l.length:=by
  intro k
  have h1:=flat_le be8 l k
  have h2:=encInts_length l
  rw [encInts,List.length_append,be8_length] at h2
  omega
 refine zN Tryz.func87 G Tryz.ntmps87 Tryz.results87 G fun fr=>?_
 repeat (first|refine zF ?_|refine zR ?_|refine zB ?_|refine zE ?_|refine zK G G G ?_|refine L_len G G G ?_)
 refine hold_count l.length (fun k g L=>∃ (vo:Value) (h R:Hp),g=[(0,vo),(7,.slice a2 l.length c2),(8,.int .i64 l.length),(9,.int .i64 k)]∧((k=0∧vo=v∧h=0)∨(0<k∧OwL w0 0 (b++((l.take k).map be8).flatten) vo h))∧L=X+h+fr+R) _
  ⟨v,0,0,rfl,.inl ⟨rfl,rfl,rfl⟩,by simp only [yB]⟩ (by repeat (first|exact zT _|refine zO G ?_)) ?_
 rintro k g L hk ⟨vo,h,R,rfl,ho,rfl⟩
 repeat (first|refine zF ?_|refine zB ?_)
 refine yG G G (pv_lss G G) (fun h3=>?_) (fun h3=>?_)
 ·have hx:k<l.length:=by omega
  obtain ⟨b2,o2,rfl,e,rfl,hat⟩:=hu.at hx
  have hrd:RdL w0 (X+h) vo (b++((l.take k).map be8).flatten):=by
   rcases ho with ⟨rfl,rfl,rfl⟩|⟨_,ho⟩
   ·simpa [yB] using hv
   ·exact ho.rd (R:=X)
  repeat (first|refine zF ?_|refine zR ?_|refine zB ?_|refine zE ?_|refine zK G G G ?_|refine zP ?_|refine zJ G ?_|refine L_idx G G (by omega) G G ?_|refine L_at G (by assumption) G G G G ?_)
  refine zY G G (zQ G G G) (putInt_spec w0 (X+h) vo _ l[k] hrd (by rw [List.length_append]; have:=hlen k; omega)) ?_
  rintro v5 _ ⟨h5,ho5,rfl⟩
  repeat (first|refine zB ?_|refine zE ?_|refine zK G G G ?_|refine L_add G G (by omega) (by omega) G G ?_)
  refine ⟨hx,_,(by repeat (first|exact zT _|refine zO G ?_)),v5,h5,_,rfl,.inr ⟨by omega,?_⟩,yK.out⟩
  rw [flat_take be8 hx,← List.append_assoc]
  exact ho5
 ·rw [List.take_of_length_le (by omega)] at ho
  repeat (first|refine zF ?_|refine yD ?_|refine zB ?_|refine zE ?_|refine zK G G G ?_|refine zM ?_|refine zI G ?_)
  rcases ho with ⟨rfl,_,_⟩|⟨_,ho⟩
  ·exact absurd hpos (by omega)
  ·exact ⟨[_],X+h,_,⟨rfl,trivial⟩,⟨h,ho,rfl⟩,yK.out⟩
theorem putBlocks_spec (w0:World) (X:Hp) (v u:Value) (b:List Bt) (l:List Blk) (hv:RdL w0 X v b) (hu:RdL w0 X u l) (hl:(b++encL' encBlk l).length≤90000000000000) :
  Spec Tryz.prog w0 86 [v,u] X (fun r h'=>∃ h,OwL w0 0 (b++encL' encBlk l) r h∧X+h=h'):=by
 rw [List.length_append,encL'_length] at hl
 have hln:=len_flat encBlk (fun x=>by unfold encBlk; simp only [List.length_append,be8_length]; omega) l
 have hint:=putInt_spec w0 X v b l.length hv (by omega)
 obtain ⟨a,c,rfl⟩:=hv.shape
 obtain ⟨a2,c2,rfl⟩:=hu.shape
 refine zN Tryz.func86 G Tryz.ntmps86 Tryz.results86 G fun fr=>?_
 repeat (first|refine zF ?_|refine zB ?_|refine zE ?_|refine zK G G G ?_|refine L_len G G G ?_)
 refine zY G G (zQ G G G) hint ?_
 rintro v1 _ ⟨h1,ho1,rfl⟩
 repeat (first|refine zF ?_|refine zR ?_|refine zB ?_|refine zE ?_|refine zK G G G ?_|refine L_len G G G ?_)
 refine hold_count l.length (fun k g L=>∃ (vo:Value) (h R:Hp),g=[(0,vo),(11,.slice a2 l.length c2),(12,.int .i64 l.length),(13,.int .i64 k)]∧OwL w0 0 (b++be8 l.length++((l.take k).map encBlk).flatten) vo h∧L=X+h+fr+R) _
  ⟨v1,h1,0,rfl,by simpa using ho1,by simp only [yB]<;>ac_rfl⟩ (by repeat (first|exact zT _|refine zO G ?_)) ?_
 rintro k g L hk ⟨vo,h,R,rfl,ho,rfl⟩
 repeat (first|refine zF ?_|refine zB ?_)
 refine yG G G (pv_lss G G) (fun h3=>?_) (fun h3=>?_)
 ·have hx:k<l.length:=by omega
  obtain ⟨b2,o2,rfl,e,⟨a3,c3,rfl,hdat⟩,hat⟩:=hu.at hx
  have hst:=flat_step encBlk hx
  have hel:(encBlk l[k]).length=16+l[k].data.length:=by simp only [encBlk,blob,List.length_append,be8_length]; omega
  repeat (first|refine zF ?_|refine zR ?_|refine zB ?_|refine zE ?_|refine zP ?_|refine zJ G ?_|refine L_idx G G (by omega) G G ?_|refine L_atA G (by assumption) G G G G ?_|refine L_stA G (vs:=[_,_]) G G G G (c':=[_,_]) G G ?_|refine L_alloc (c:=[_,_]) G G G (fun _=>?_))
  refine yC [3,6] [0,1,2,4,5,3,6,7] (by kernel_rfl) G (by kernel_rfl) (by kernel_rfl) ?_
  repeat (first|refine yI G G G G G ?_|refine yE G G G G (yA G G G) ?_|refine W_load G G G G (yF G) (zG G (zS G)) ?_)
  refine W_call G G G G (zQ G G G) (putInt_spec w0 h vo _ l[k].no ho.rdh (by simp only [List.length_append,be8_length]; omega)) (Kept.all _) ?_
  rintro v5 _ ⟨h5,ho5,rfl⟩
  refine ⟨(by repeat (first|exact trivial|exact zG G (zS G)|exact zL G G G|exact zX G (by assumption) G|exact zH G (by assumption) G|exact zH G (by assumption) (by assumption)|refine ⟨?_,?_⟩)),?_⟩
  skip
  refine W_call G G G G (zQ G G G) (putBlob_spec w0 (X+h5) v5 _ _ l[k].data (ho5.rd (R:=X)) (hdat.frame) (by simp only [List.length_append,be8_length]; omega)) (Kept.all _) ?_
  rintro v6 _ ⟨h6,ho6,rfl⟩
  refine ⟨(by repeat (first|exact trivial|exact zG G (zS G)|exact zL G G G|exact zX G (by assumption) G|exact zH G (by assumption) G|exact zH G (by assumption) (by assumption)|refine ⟨?_,?_⟩)),?_⟩
  repeat (first|refine yJ ?_|refine yI G G G G G ?_)
  repeat (first|refine zB ?_|refine zE ?_|refine zK G G G ?_|refine L_add G G (by omega) (by omega) G G ?_)
  refine ⟨hx,_,(by repeat (first|exact zT _|refine zO G ?_)),v6,h6,_,rfl,?_,yK.out⟩
  rw [flat_take encBlk hx]
  simpa only [encBlk,blob,List.append_assoc] using ho6
 ·rw [List.take_of_length_le (by omega)] at ho
  repeat (first|refine zF ?_|refine yD ?_|refine zB ?_|refine zE ?_|refine zK G G G ?_|refine zM ?_|refine zI G ?_)
  exact ⟨[_],X+h,_,⟨rfl,trivial⟩,⟨h,by rw [encL',← List.append_assoc]; exact ho,rfl⟩,yK.out⟩
theorem putKept_spec (w0:World) (X:Hp) (v u:Value) (b:List Bt) (l:List Kpt) (hv:RdL w0 X v b) (hu:RdL w0 X u l) (hl:(b++encL' encKpt l).length≤90000000000000) :
  Spec Tryz.prog w0 85 [v,u] X (fun r h'=>∃ h,OwL w0 0 (b++encL' encKpt l) r h∧X+h=h'):=by
 rw [List.length_append,encL'_length] at hl
 have hln:=len_flat encKpt (fun x=>by unfold encKpt; simp only [List.length_append,be8_length]; omega) l
 have hint:=putInt_spec w0 X v b l.length hv (by omega)
 obtain ⟨a,c,rfl⟩:=hv.shape
 obtain ⟨a2,c2,rfl⟩:=hu.shape
 refine zN Tryz.func85 G Tryz.ntmps85 Tryz.results85 G fun fr=>?_
 repeat (first|refine zF ?_|refine zB ?_|refine zE ?_|refine zK G G G ?_|refine L_len G G G ?_)
 refine zY G G (zQ G G G) hint ?_
 rintro v1 _ ⟨h1,ho1,rfl⟩
 repeat (first|refine zF ?_|refine zR ?_|refine zB ?_|refine zE ?_|refine zK G G G ?_|refine L_len G G G ?_)
 refine hold_count l.length (fun k g L=>∃ (vo:Value) (h R:Hp),g=[(0,vo),(11,.slice a2 l.length c2),(12,.int .i64 l.length),(13,.int .i64 k)]∧OwL w0 0 (b++be8 l.length++((l.take k).map encKpt).flatten) vo h∧L=X+h+fr+R) _
  ⟨v1,h1,0,rfl,by simpa using ho1,by simp only [yB]<;>ac_rfl⟩ (by repeat (first|exact zT _|refine zO G ?_)) ?_
 rintro k g L hk ⟨vo,h,R,rfl,ho,rfl⟩
 repeat (first|refine zF ?_|refine zB ?_)
 refine yG G G (pv_lss G G) (fun h3=>?_) (fun h3=>?_)
 ·have hx:k<l.length:=by omega
  obtain ⟨b2,o2,rfl,e,⟨a3,c3,rfl,hdat⟩,hat⟩:=hu.at hx
  have hst:=flat_step encKpt hx
  have hel:(encKpt l[k]).length=24+l[k].data.length:=by simp only [encKpt,blob,List.length_append,be8_length]; omega
  repeat (first|refine zF ?_|refine zR ?_|refine zB ?_|refine zE ?_|refine zP ?_|refine zJ G ?_|refine L_idx G G (by omega) G G ?_|refine L_atA G (by assumption) G G G G ?_|refine L_stA G (vs:=[_,_,_]) G G G G (c':=[_,_,_]) G G ?_|refine L_alloc (c:=[_,_,_]) G G G (fun _=>?_))
  refine yC [3,6,9] [0,1,2,4,5,7,8,3,6,9,10] (by kernel_rfl) G (by kernel_rfl) (by kernel_rfl) ?_
  repeat (first|refine yI G G G G G ?_|refine yE G G G G (yA G G G) ?_|refine W_load G G G G (yF G) (zG G (zS G)) ?_)
  refine W_call G G G G (zQ G G G) (putInt_spec w0 h vo _ l[k].snap ho.rdh (by simp only [List.length_append,be8_length]; omega)) (Kept.all _) ?_
  rintro v5 _ ⟨h5,ho5,rfl⟩
  refine ⟨(by repeat (first|exact trivial|exact zG G (zS G)|exact zL G G G|exact zX G (by assumption) G|exact zH G (by assumption) G|exact zH G (by assumption) (by assumption)|refine ⟨?_,?_⟩)),?_⟩
  skip
  refine W_call G G G G (zQ G G G) (putInt_spec w0 h5 v5 _ l[k].no ho5.rdh (by simp only [List.length_append,be8_length]; omega)) (Kept.all _) ?_
  rintro v6 _ ⟨h6,ho6,rfl⟩
  refine ⟨(by repeat (first|exact trivial|exact zG G (zS G)|exact zL G G G|exact zX G (by assumption) G|exact zH G (by assumption) G|exact zH G (by assumption) (by assumption)|refine ⟨?_,?_⟩)),?_⟩
  skip
  refine W_call G G G G (zQ G G G) (putBlob_spec w0 (X+h6) v6 _ _ l[k].data (ho6.rd (R:=X)) (hdat.frame) (by simp only [List.length_append,be8_length]; omega)) (Kept.all _) ?_
  rintro v7 _ ⟨h7,ho7,rfl⟩
  refine ⟨(by repeat (first|exact trivial|exact zG G (zS G)|exact zL G G G|exact zX G (by assumption) G|exact zH G (by assumption) G|exact zH G (by assumption) (by assumption)|refine ⟨?_,?_⟩)),?_⟩
  repeat (first|refine yJ ?_|refine yI G G G G G ?_)
  repeat (first|refine zB ?_|refine zE ?_|refine zK G G G ?_|refine L_add G G (by omega) (by omega) G G ?_)
  refine ⟨hx,_,(by repeat (first|exact zT _|refine zO G ?_)),v7,h7,_,rfl,?_,yK.out⟩
  rw [flat_take encKpt hx]
  simpa only [encKpt,blob,List.append_assoc] using ho7
 ·rw [List.take_of_length_le (by omega)] at ho
  repeat (first|refine zF ?_|refine yD ?_|refine zB ?_|refine zE ?_|refine zK G G G ?_|refine zM ?_|refine zI G ?_)
  exact ⟨[_],X+h,_,⟨rfl,trivial⟩,⟨h,by rw [encL',← List.append_assoc]; exact ho,rfl⟩,yK.out⟩
theorem ints_block {w0:World} {b:Nat} (l:List Int) (hl:l.length≤10):RdL w0 (intsAt b l) (.slice (some ⟨b,0,none⟩) l.length l.length) l:=rdL_ints.2 ((intsAt_row (by omega)).rd (R:=0))
theorem putLocks_spec (w0:World) (X:Hp) (v u:Value) (b:List Bt) (l:List Lk) (hv:RdL w0 X v b) (hu:RdL w0 X u l) (hl:(b++encL' encLk l).length≤90000000000000) :
  Spec Tryz.prog w0 90 [v,u] X (fun r h'=>∃ h,OwL w0 0 (b++encL' encLk l) r h∧X+h=h'):=by
 rw [List.length_append,encL'_length] at hl
 have hln:=len_flat encLk (fun x=>by unfold encLk; simp only [List.length_append,be8_length]; omega) l
 have hint:=putInt_spec w0 X v b l.length hv (by omega)
 obtain ⟨a,c,rfl⟩:=hv.shape
 obtain ⟨a2,c2,rfl⟩:=hu.shape
 refine zN Tryz.func90 G Tryz.ntmps90 Tryz.results90 G fun fr=>?_
 repeat (first|refine zF ?_|refine zB ?_|refine zE ?_|refine zK G G G ?_|refine L_len G G G ?_)
 refine zY G G (zQ G G G) hint ?_
 rintro v1 _ ⟨h1,ho1,rfl⟩
 repeat (first|refine zF ?_|refine zR ?_|refine zB ?_|refine zE ?_|refine zK G G G ?_|refine L_len G G G ?_)
 refine hold_count l.length (fun k g L=>∃ (vo:Value) (h R:Hp),g=[(0,vo),(12,.slice a2 l.length c2),(13,.int .i64 l.length),(14,.int .i64 k)]∧OwL w0 0 (b++be8 l.length++((l.take k).map encLk).flatten) vo h∧L=X+h+fr+R) _
  ⟨v1,h1,0,rfl,by simpa using ho1,by simp only [yB]<;>ac_rfl⟩ (by repeat (first|exact zT _|refine zO G ?_)) ?_
 rintro k g L hk ⟨vo,h,R,rfl,ho,rfl⟩
 repeat (first|refine zF ?_|refine zB ?_)
 refine yG G G (pv_lss G G) (fun h3=>?_) (fun h3=>?_)
 ·have hx:k<l.length:=by omega
  obtain ⟨b2,o2,rfl,e,he,hat⟩:=hu.at hx
  obtain rfl:e=[.int .i64 l[k].block,.int .i64 l[k].txn,.int .i64 l[k].age,.bool l[k].write]:=he
  have hst:=flat_step encLk hx
  have hel:(encLk l[k]).length=32:=by simp only [encLk,List.length_append,be8_length]
  have hnum:=fun b28=>numbers22_spec w0 (h+intsAt b28 [l[k].block,l[k].txn,l[k].age,bit l[k].write]) vo (.slice (some ⟨b28,0,none⟩) 4 4) _ [l[k].block,l[k].txn,l[k].age,bit l[k].write] (ho.rd (R:=intsAt b28 [l[k].block,l[k].txn,l[k].age,bit l[k].write])) ((ints_block (b:=b28) [l[k].block,l[k].txn,l[k].age,bit l[k].write] (by simp)).frame) (by simp only [List.length_append,be8_length]; omega) (by simp) (by simp)
  have fin:∀ {g:Env} {L R:Hp} {v5:Value} {h5:Hp},OwL w0 0 (b++be8 l.length++((l.take k).map encLk).flatten++([l[k].block,l[k].txn,l[k].age,bit l[k].write].map be8).flatten) v5 h5→OwL w0 0 (b++be8 l.length++((l.take (k+1)).map encLk).flatten) v5 h5:=by
   intro g L R v5 h5 ho5
   rw [flat_take encLk hx]
   simpa only [encLk,List.append_assoc,List.map_cons,List.map_nil,List.flatten_cons,List.flatten_nil,List.append_nil] using ho5
  cases hw:l[k].write
  all_goals
   rw [hw] at hnum fin hat
   simp only [show bit false=0 from rfl,show bit true=1 from rfl] at hnum fin
   repeat (first|refine zF ?_|refine zR ?_|refine zB ?_|refine zE ?_|refine zK G G G ?_|refine zZ G G G G G ?_|refine L_ld G G G G G ?_|refine zP ?_|refine zJ G ?_|refine zI G ?_|refine L_idx G G (by omega) G G ?_|refine L_atA G (by assumption) G G G G ?_|refine L_stA G (vs:=[_,_,_,_]) G G G G (c':=[_,_,_,_]) G G ?_|refine L_alloc (c:=[_,_,_,_]) G G G (fun _=>?_)|refine L_bs (vs:=[_,_,_,_]) (cells:=[_,_,_,_]) G G G G G G (fun _=>?_))
   rename_i b6 b28
   have hI:=hnum b28
   change Spec _ _ _ _ (h+pt b28 (.cells [.int .i64 l[k].block,.int .i64 l[k].txn,.int .i64 l[k].age,.int .i64 _].toArray 3 (0,0))) _ at hI
   refine zY G G (zQ G G G) hI ?_
   rintro v5 _ ⟨h5,ho5,rfl⟩
   repeat (first|refine zB ?_|refine zE ?_|refine zK G G G ?_|refine L_add G G (by omega) (by omega) G G ?_)
   exact ⟨hx,_,(by repeat (first|exact zT _|refine zO G ?_)),v5,h5,_,rfl,fin (g:=[]) (L:=0) (R:=0) ho5,yK.out⟩
 ·rw [List.take_of_length_le (by omega)] at ho
  repeat (first|refine zF ?_|refine yD ?_|refine zB ?_|refine zE ?_|refine zK G G G ?_|refine zM ?_|refine zI G ?_)
  exact ⟨[_],X+h,_,⟨rfl,trivial⟩,⟨h,by rw [encL',← List.append_assoc]; exact ho,rfl⟩,yK.out⟩
end Sl
end Go.Proofs.YtpkealohodeifaaGreat
namespace Go.Proofs.YtpkealohodeifaaGreat
open Go Go.RowKit
namespace Sl
set_option maxHeartbeats 8000000
set_option maxRecDepth 4000
attribute [local irreducible] Hold HoldL HoldW
def headPrp (x:Prp):List Bt:=be8 x.txn++be8 x.age++be8 x.snap++be8 x.lo++be8 x.hi++encInts x.parts
theorem putPreps_spec (w0:World) (X:Hp) (v u:Value) (b:List Bt) (l:List Prp) (hv:RdL w0 X v b) (hu:RdL w0 X u l) (hl:(b++encL' encPrp l).length≤8000000000000) :
  Spec Tryz.prog w0 89 [v,u] X (fun r h'=>∃ h,OwL w0 0 (b++encL' encPrp l) r h∧X+h=h'):=by
 rw [List.length_append,encL'_length] at hl
 have hln:=len_flat encPrp (fun x=>by unfold encPrp; simp only [List.length_append,be8_length]; omega) l
 have hint:=putInt_spec w0 X v b l.length hv (by omega)
 obtain ⟨a,c,rfl⟩:=hv.shape
 obtain ⟨a2,c2,rfl⟩:=hu.shape
 refine zN Tryz.func89 G Tryz.ntmps89 Tryz.results89 G fun fr=>?_
 repeat (first|refine zF ?_|refine zB ?_|refine zE ?_|refine zK G G G ?_|refine L_len G G G ?_)
 refine zY G G (zQ G G G) hint ?_
 rintro v1 _ ⟨h1,ho1,rfl⟩
 repeat (first|refine zF ?_|refine zR ?_|refine zB ?_|refine zE ?_|refine zK G G G ?_|refine L_len G G G ?_)
 refine hold_count l.length (fun k g L=>∃ (vo:Value) (h R:Hp),g=[(0,vo),(13,.slice a2 l.length c2),(14,.int .i64 l.length),(15,.int .i64 k)]∧OwL w0 0 (b++be8 l.length++((l.take k).map encPrp).flatten) vo h∧L=X+h+fr+R) _
  ⟨v1,h1,0,rfl,by simpa using ho1,by simp only [yB]<;>ac_rfl⟩ (by repeat (first|exact zT _|refine zO G ?_)) ?_
 rintro k g L hk ⟨vo,h,R,rfl,ho,rfl⟩
 repeat (first|refine zF ?_|refine zB ?_)
 refine yG G G (pv_lss G G) (fun h3=>?_) (fun h3=>?_)
 ·have hx:k<l.length:=by omega
  obtain ⟨b2,o2,rfl,e,⟨a3,c3,a4,c4,rfl,hparts,hwr⟩,hat⟩:=hu.at hx
  have hst:=flat_step encPrp hx
  have hel:(encPrp l[k]).length=56+8*l[k].parts.length+(l[k].writes.map encWr).flatten.length:=by simp only [encPrp,List.length_append,be8_length,encInts_length,encL'_length]; omega
  generalize hcur:b++be8 l.length++((l.take k).map encPrp).flatten=cur at ho
  have hcl:cur.length=b.length+8+((l.take k).map encPrp).flatten.length:=by rw [← hcur]; simp only [List.length_append,be8_length]
  have hnum:=fun b30=>numbers22_spec w0 (h+intsAt b30 [l[k].txn,l[k].age,l[k].snap,l[k].lo,l[k].hi]) vo (.slice (some ⟨b30,0,none⟩) 5 5) cur [l[k].txn,l[k].age,l[k].snap,l[k].lo,l[k].hi] (ho.rd (R:=intsAt b30 [l[k].txn,l[k].age,l[k].snap,l[k].lo,l[k].hi])) ((ints_block (b:=b30) [l[k].txn,l[k].age,l[k].snap,l[k].lo,l[k].hi] (by simp)).frame) (by omega) (by simp) (by simp)
  repeat (first|refine zF ?_|refine zR ?_|refine zB ?_|refine zE ?_|refine zP ?_|refine zJ G ?_|refine L_idx G G (by omega) G G ?_|refine L_atA G (by assumption) G G G G ?_|refine L_stA G (vs:=[_,_,_,_,_,_,_]) G G G G (c':=[_,_,_,_,_,_,_]) G G ?_|refine L_alloc (c:=[_,_,_,_,_,_,_]) G G G (fun _=>?_))
  refine yC [11,12,15] [0,1,2,3,4,5,6,7,8,9,10,13,14,11,12,15,16] (by kernel_rfl) G (by kernel_rfl) (by kernel_rfl) ?_
  repeat (first|refine yI G G G G G ?_|refine yE G G G G (yA G G G) ?_|refine W_load G G G G (yF G) (zG G (zS G)) ?_)
  refine W_eff G G G G (ev_buildSlice (vs:=[_,_,_,_,_]) (cells:=[_,_,_,_,_]) G G G G) (Kept.all _) ?_
  rintro _ _ ⟨b30,rfl,rfl⟩
  refine ⟨(by repeat (first|exact trivial|exact zG G (zS G)|exact zL G G G|exact zX G (by assumption) G|exact zH G (by assumption) G|exact zH G (by assumption) (by assumption)|refine ⟨?_,?_⟩)),?_⟩
  have hI:=hnum b30
  change Spec _ _ _ _ (h+pt b30 (.cells [.int .i64 l[k].txn,.int .i64 l[k].age,.int .i64 l[k].snap,.int .i64 l[k].lo,.int .i64 l[k].hi].toArray 3 (0,0))) _ at hI
  refine W_call G G G G (zQ G G G) hI (Kept.all _) ?_
  rintro v5 _ ⟨h5,ho5,rfl⟩
  refine ⟨(by repeat (first|exact trivial|exact zG G (zS G)|exact zL G G G|exact zX G (by assumption) G|exact zH G (by assumption) G|exact zH G (by assumption) (by assumption)|refine ⟨?_,?_⟩)),?_⟩
  skip
  refine W_call G G G G (zQ G G G) (putInts_spec w0 (X+h5) v5 _ _ l[k].parts (ho5.rd (R:=X)) (hparts.frame) (by simp only [List.length_append,be8_length,List.map_cons,List.map_nil,List.flatten_cons,List.flatten_nil,List.length_nil]; omega) (by omega)) (Kept.all _) ?_
  rintro v6 _ ⟨h6,ho6,rfl⟩
  refine ⟨(by repeat (first|exact trivial|exact zG G (zS G)|exact zL G G G|exact zX G (by assumption) G|exact zH G (by assumption) G|exact zH G (by assumption) (by assumption)|refine ⟨?_,?_⟩)),?_⟩
  have e6:cur++([l[k].txn,l[k].age,l[k].snap,l[k].lo,l[k].hi].map be8).flatten++encInts l[k].parts=cur++headPrp l[k]:=by
   simp only [headPrp,List.map_cons,List.map_nil,List.flatten_cons,List.flatten_nil,List.append_nil,List.append_assoc]
  rw [e6] at ho6
  have hhl:(headPrp l[k]).length=48+8*l[k].parts.length:=by simp only [headPrp,List.length_append,be8_length,encInts_length]; omega
  repeat (first|refine yJ ?_|refine yI G G G G G ?_)
  repeat (first|refine zF ?_|refine zB ?_|refine zK G G G ?_|refine zZ G G G G G ?_|refine L_ld G G G G G ?_|refine L_len G G G ?_)
  refine zY G G (zQ G G G) (putInt_spec w0 h6 v6 _ l[k].writes.length ho6.rdh (by rw [List.length_append]; omega)) ?_
  rintro v7 _ ⟨h7,ho7,rfl⟩
  repeat (first|refine zF ?_|refine zR ?_|refine zB ?_|refine zE ?_|refine zK G G G ?_|refine zZ G G G G G ?_|refine L_ld G G G G G ?_|refine L_len G G G ?_)
  have hwln:=len_flat encWr (fun x=>by unfold encWr; simp only [List.length_append,be8_length]; omega) l[k].writes
  refine hold_count l[k].writes.length (fun i g L=>∃ (vo:Value) (h R:Hp),g=[(0,vo),(13,.slice (some ⟨b2,o2,none⟩) l.length c2),(14,.int .i64 l.length),(15,.int .i64 k),(41,.slice a4 l[k].writes.length c4),(42,.int .i64 l[k].writes.length),(43,.int .i64 i)] ∧
    OwL w0 0 (cur++headPrp l[k]++be8 l[k].writes.length++((l[k].writes.take i).map encWr).flatten) vo h∧L=X+h+fr+R) _
   ⟨v7,h7,_,rfl,by simpa using ho7,yK.out⟩ (by repeat (first|exact zT _|refine zO G ?_)) ?_
  clear ho7 ho6 ho5 R
  rintro i g L hi ⟨vp,hp,R,rfl,hop,rfl⟩
  repeat (first|refine zF ?_|refine zB ?_)
  refine yG G G (pv_lss G G) (fun h8=>?_) (fun h8=>?_)
  ·have hxi:i<l[k].writes.length:=by omega
   obtain ⟨b9,o9,rfl,e9,⟨a10,c10,rfl,hdat⟩,hat9⟩:=hwr.at hxi
   have hst2:=flat_step encWr hxi
   have hel2:(encWr l[k].writes[i]).length=16+l[k].writes[i].data.length:=by simp only [encWr,blob,List.length_append,be8_length]; omega
   repeat (first|refine zF ?_|refine zR ?_|refine zB ?_|refine zE ?_|refine zP ?_|refine zJ G ?_|refine L_idx G G (by omega) G G ?_|refine L_atA G (by assumption) G G G G ?_|refine L_stA G (vs:=[_,_]) G G G G (c':=[_,_]) G G ?_|refine L_alloc (c:=[_,_]) G G G (fun _=>?_))
   refine yC [3,6] [0,1,2,4,5,3,6,7] (by kernel_rfl) G (by kernel_rfl) (by kernel_rfl) ?_
   repeat (first|refine yI G G G G G ?_|refine yE G G G G (yA G G G) ?_|refine W_load G G G G (yF G) (zG G (zS G)) ?_)
   refine W_call G G G G (zQ G G G) (putInt_spec w0 hp vp _ l[k].writes[i].block hop.rdh (by simp only [List.length_append,be8_length]; omega)) (Kept.all _) ?_
   rintro v11 _ ⟨h11,ho11,rfl⟩
   refine ⟨(by repeat (first|exact trivial|exact zG G (zS G)|exact zL G G G|exact zX G (by assumption) G|exact zH G (by assumption) G|exact zH G (by assumption) (by assumption)|refine ⟨?_,?_⟩)),?_⟩
   skip
   refine W_call G G G G (zQ G G G) (putBlob_spec w0 (X+h11) v11 _ _ l[k].writes[i].data (ho11.rd (R:=X)) (hdat.frame) (by simp only [List.length_append,be8_length]; omega)) (Kept.all _) ?_
   rintro v12 _ ⟨h12,ho12,rfl⟩
   refine ⟨(by repeat (first|exact trivial|exact zG G (zS G)|exact zL G G G|exact zX G (by assumption) G|exact zH G (by assumption) G|exact zH G (by assumption) (by assumption)|refine ⟨?_,?_⟩)),?_⟩
   repeat (first|refine yJ ?_|refine yI G G G G G ?_)
   repeat (first|refine zB ?_|refine zE ?_|refine zK G G G ?_|refine L_add G G (by omega) (by omega) G G ?_)
   refine ⟨hxi,_,(by repeat (first|exact zT _|refine zO G ?_)),v12,h12,_,rfl,?_,yK.out⟩
   rw [flat_take encWr hxi]
   simpa only [encWr,blob,List.append_assoc] using ho12
  ·rw [List.take_of_length_le (by omega)] at hop
   repeat (first|refine zF ?_|refine yD ?_|refine zB ?_|refine zE ?_|refine zK G G G ?_|refine zI G ?_|refine L_add G G (by omega) (by omega) G G ?_)
   refine ⟨hx,_,(by repeat (first|exact zT _|refine zO G ?_)),vp,hp,_,rfl,?_,yK.out⟩
   rw [flat_take encPrp hx,← List.append_assoc,hcur]
   simpa only [encPrp,headPrp,encL',List.append_assoc] using hop
 ·rw [List.take_of_length_le (by omega)] at ho
  repeat (first|refine zF ?_|refine yD ?_|refine zB ?_|refine zE ?_|refine zK G G G ?_|refine zM ?_|refine zI G ?_)
  exact ⟨[_],X+h,_,⟨rfl,trivial⟩,⟨h,by rw [encL',← List.append_assoc]; exact ho,rfl⟩,yK.out⟩
abbrev cellsS (s:Shd) (b k l p d o x:Value):List Value:=[.int .i64 s.lo,.int .i64 s.hi,.int .i64 s.epoch,b,k,l,p,d,o,x]
def RdShd (w0:World) (L:Hp) (s:Shd) (e:List Value):Prop:=∃ a1 c1 a2 c2 a3 c3 a4 c4 a5 c5 a6 c6 a7 c7,
 e=cellsS s (.slice a1 s.blocks.length c1) (.slice a2 s.kept.length c2) (.slice a3 s.locks.length c3) (.slice a4 s.preps.length c4) (.slice a5 s.dead.length c5) (.slice a6 s.outs.length c6) (.slice a7 s.sess.length c7) ∧
 RdL w0 L (.slice a1 s.blocks.length c1) s.blocks∧RdL w0 L (.slice a2 s.kept.length c2) s.kept∧RdL w0 L (.slice a3 s.locks.length c3) s.locks∧RdL w0 L (.slice a4 s.preps.length c4) s.preps∧RdL w0 L (.slice a5 s.dead.length c5) s.dead∧RdL w0 L (.slice a6 s.outs.length c6) s.outs∧RdL w0 L (.slice a7 s.sess.length c7) s.sess
theorem RdShd.mono {w0:World} {X L R:Hp} {s:Shd} {e:List Value} (he:L=X+R) (h:RdShd w0 X s e):RdShd w0 L s e:=by
 obtain ⟨a1,c1,a2,c2,a3,c3,a4,c4,a5,c5,a6,c6,a7,c7,rfl,h1,h2,h3,h4,h5,h6,h7⟩:=h
 exact ⟨a1,c1,a2,c2,a3,c3,a4,c4,a5,c5,a6,c6,a7,c7,rfl,h1.mono he,h2.mono he,h3.mono he,h4.mono he,h5.mono he,h6.mono he,h7.mono he⟩
theorem put22_spec (w0:World) (X:Hp) (s:Shd) (e:List Value) (he:RdShd w0 X s e) (hl:(encShd s).length≤1000000000000) :
  Spec Tryz.prog w0 18 [.agg e.toArray] X (fun r h'=>∃ h,OwL w0 0 (encShd s) r h∧X+h=h'):=by
 obtain ⟨a1,c1,a2,c2,a3,c3,a4,c4,a5,c5,a6,c6,a7,c7,rfl,r1,r2,r3,r4,r5,r6,r7⟩:=he
 simp only [encShd,List.length_append,be8_length,encInts_length] at hl
 refine zN Tryz.func18 G Tryz.ntmps18 Tryz.results18 G fun fr=>?_
 repeat (first|refine zF ?_|refine zB ?_|refine zE ?_|refine zK G G G ?_|refine L_box G (c:=[_,_,_,_,_,_,_,_,_,_]) G G G (fun _=>?_))
 rename_i b1
 refine yC [6,7,10,13] [0,1,2,3,4,5,8,9,11,12,6,7,10,13,14] (by kernel_rfl) G (by kernel_rfl) (by kernel_rfl) ?_
 repeat (first|refine yE G G G G (yA G G G) ?_|refine W_load G G G G (yF G) (zG G (zS G)) ?_)
 refine W_eff G G G G (ev_buildSlice (vs:=[_,_,_]) (cells:=[_,_,_]) G G G G) (Kept.all _) ?_
 rintro _ _ ⟨b14,rfl,rfl⟩
 refine ⟨(by repeat (first|exact trivial|exact zG G (zS G)|exact zL G G G|exact zX G (by assumption) G|exact zH G (by assumption) G|exact zH G (by assumption) (by assumption)|refine ⟨?_,?_⟩)),?_⟩
 have hI:=numbers22_spec w0 (intsAt b14 [s.lo,s.hi,s.epoch]) (.slice none 0 0) (.slice (some ⟨b14,0,none⟩) 3 3) [] [s.lo,s.hi,s.epoch] (RdL.nil _ _ _) (ints_block (b:=b14) [s.lo,s.hi,s.epoch] (by simp)) (by simp) (by simp) (by simp)
 change Spec _ _ _ _ (pt b14 (.cells [.int .i64 s.lo,.int .i64 s.hi,.int .i64 s.epoch].toArray 3 (0,0))) _ at hI
 refine W_call G G G G (zQ G G G) hI (Kept.all _) ?_
 rintro v5 _ ⟨h5,ho5,rfl⟩
 refine ⟨(by repeat (first|exact trivial|exact zG G (zS G)|exact zL G G G|exact zX G (by assumption) G|exact zH G (by assumption) G|exact zH G (by assumption) (by assumption)|refine ⟨?_,?_⟩)),?_⟩
 have e5:[]++([s.lo,s.hi,s.epoch].map be8).flatten=be8 s.lo++be8 s.hi++be8 s.epoch:=by simp
 rw [e5] at ho5
 skip
 refine W_call G G G G (zQ G G G) (putBlocks_spec w0 (X+h5) v5 _ _ s.blocks (ho5.rd (R:=X)) (r1.frame) (by simp only [List.length_append,be8_length]; omega)) (Kept.all _) ?_
 rintro v6 _ ⟨h6,ho6,rfl⟩
 refine ⟨(by repeat (first|exact trivial|exact zG G (zS G)|exact zL G G G|exact zX G (by assumption) G|exact zH G (by assumption) G|exact zH G (by assumption) (by assumption)|refine ⟨?_,?_⟩)),?_⟩
 skip
 refine W_call G G G G (zQ G G G) (putKept_spec w0 (X+h6) v6 _ _ s.kept (ho6.rd (R:=X)) (r2.frame) (by simp only [List.length_append,be8_length]; omega)) (Kept.all _) ?_
 rintro v7 _ ⟨h7,ho7,rfl⟩
 refine ⟨(by repeat (first|exact trivial|exact zG G (zS G)|exact zL G G G|exact zX G (by assumption) G|exact zH G (by assumption) G|exact zH G (by assumption) (by assumption)|refine ⟨?_,?_⟩)),?_⟩
 repeat (first|refine yJ ?_|refine yI G G G G G ?_)
 repeat (refine zF ?_)
 refine yC [3,6,9] [0,1,2,4,5,7,8,3,6,9,10] (by kernel_rfl) G (by kernel_rfl) (by kernel_rfl) ?_
 repeat (first|refine yI G G G G G ?_|refine yE G G G G (yA G G G) ?_|refine W_load G G G G (yF G) (zG G (zS G)) ?_)
 refine W_call G G G G (zQ G G G) (putLocks_spec w0 (X+h7) v7 _ _ s.locks (ho7.rd (R:=X)) (r3.frame) (by simp only [List.length_append,be8_length]; omega)) (Kept.all _) ?_
 rintro v8 _ ⟨h8,ho8,rfl⟩
 refine ⟨(by repeat (first|exact trivial|exact zG G (zS G)|exact zL G G G|exact zX G (by assumption) G|exact zH G (by assumption) G|exact zH G (by assumption) (by assumption)|refine ⟨?_,?_⟩)),?_⟩
 skip
 refine W_call G G G G (zQ G G G) (putPreps_spec w0 (X+h8) v8 _ _ s.preps (ho8.rd (R:=X)) (r4.frame) (by simp only [List.length_append,be8_length]; omega)) (Kept.all _) ?_
 rintro v9 _ ⟨h9,ho9,rfl⟩
 refine ⟨(by repeat (first|exact trivial|exact zG G (zS G)|exact zL G G G|exact zX G (by assumption) G|exact zH G (by assumption) G|exact zH G (by assumption) (by assumption)|refine ⟨?_,?_⟩)),?_⟩
 skip
 refine W_call G G G G (zQ G G G) (putInts_spec w0 (X+h9) v9 _ _ s.dead (ho9.rd (R:=X)) (r5.frame) (by simp only [List.length_append,be8_length]; omega) (by omega)) (Kept.all _) ?_
 rintro v10 _ ⟨h10,ho10,rfl⟩
 refine ⟨(by repeat (first|exact trivial|exact zG G (zS G)|exact zL G G G|exact zX G (by assumption) G|exact zH G (by assumption) G|exact zH G (by assumption) (by assumption)|refine ⟨?_,?_⟩)),?_⟩
 repeat (first|refine yJ ?_|refine yI G G G G G ?_)
 generalize hcur:be8 s.lo++be8 s.hi++be8 s.epoch++encL' encBlk s.blocks++encL' encKpt s.kept++encL' encLk s.locks++encL' encPrp s.preps++encInts s.dead=cur at ho10
 have hcl:cur.length=24+(encL' encBlk s.blocks).length+(encL' encKpt s.kept).length+(encL' encLk s.locks).length+(encL' encPrp s.preps).length+(8+8*s.dead.length):=by rw [← hcur]; simp only [List.length_append,be8_length,encInts_length]
 rw [encL'_length encOut,encL'_length encSes] at hl
 have hlo:=len_flat encOut (fun x=>by unfold encOut; simp only [List.length_append,be8_length]; omega) s.outs
 have hls:=len_flat encSes (fun x=>by unfold encSes; simp only [List.length_append,be8_length]; omega) s.sess
 repeat (first|refine zF ?_|refine zB ?_|refine zK G G G ?_|refine zZ G G G G G ?_|refine L_ld G G G G G ?_|refine L_len G G G ?_)
 refine zY G G (zQ G G G) (putInt_spec w0 h10 v10 cur s.outs.length ho10.rdh (by omega)) ?_
 rintro v11 _ ⟨h11,ho11,rfl⟩
 repeat (first|refine zF ?_|refine zR ?_|refine zB ?_|refine zE ?_|refine zK G G G ?_|refine zZ G G G G G ?_|refine L_ld G G G G G ?_|refine L_len G G G ?_)
 refine hold_count s.outs.length (fun k g L=>∃ (vo:Value) (h R:Hp),g=[(1,.pointer (some ⟨b1,0,none⟩)),(3,vo),(38,.slice a6 s.outs.length c6),(39,.int .i64 s.outs.length),(40,.int .i64 k)]∧OwL w0 0 (cur++be8 s.outs.length++((s.outs.take k).map encOut).flatten) vo h ∧
   L=X+h+pt b1 (.cells (cellsS s (.slice a1 s.blocks.length c1) (.slice a2 s.kept.length c2) (.slice a3 s.locks.length c3) (.slice a4 s.preps.length c4) (.slice a5 s.dead.length c5) (.slice a6 s.outs.length c6) (.slice a7 s.sess.length c7)).toArray 33 (0,0))+fr+R) _
  ⟨v11,h11,_,rfl,by simpa using ho11,yK.out⟩ (by repeat (first|exact zT _|refine zO G ?_)) ?_
 clear ho11 ho10 ho9 ho8 ho7 ho6 ho5
 rintro k g L hk ⟨vo,h,R,rfl,ho,rfl⟩
 repeat (first|refine zF ?_|refine zB ?_)
 refine yG G G (pv_lss G G) (fun n1=>?_) (fun n1=>?_)
 ·have hx:k<s.outs.length:=by omega
  obtain ⟨b2,o2,rfl,e,⟨a13,c13,rfl,hdat⟩,hat⟩:=r6.at hx
  have hst:=flat_step encOut hx
  have hel:(encOut s.outs[k]).length=32+s.outs[k].data.length:=by simp only [encOut,blob,List.length_append,be8_length]; omega
  have hnum:=fun b30=>numbers22_spec w0 (h+intsAt b30 [s.outs[k].epoch,s.outs[k].lo,s.outs[k].hi]) vo (.slice (some ⟨b30,0,none⟩) 3 3) _ [s.outs[k].epoch,s.outs[k].lo,s.outs[k].hi] (ho.rd (R:=intsAt b30 [s.outs[k].epoch,s.outs[k].lo,s.outs[k].hi])) ((ints_block (b:=b30) [s.outs[k].epoch,s.outs[k].lo,s.outs[k].hi] (by simp)).frame) (by simp only [List.length_append,be8_length]; omega) (by simp) (by simp)
  repeat (first|refine zF ?_|refine zR ?_|refine zB ?_|refine zE ?_|refine zP ?_|refine zJ G ?_|refine L_idx G G (by omega) G G ?_|refine L_atA G (by assumption) G G G G ?_|refine L_stA G (vs:=[_,_,_,_]) G G G G (c':=[_,_,_,_]) G G ?_|refine L_alloc (c:=[_,_,_,_]) G G G (fun _=>?_))
  refine yC [7,8,11] [0,1,2,3,4,5,6,9,10,7,8,11,12] (by kernel_rfl) G (by kernel_rfl) (by kernel_rfl) ?_
  repeat (first|refine yI G G G G G ?_|refine yE G G G G (yA G G G) ?_|refine W_load G G G G (yF G) (zG G (zS G)) ?_)
  refine W_eff G G G G (ev_buildSlice (vs:=[_,_,_]) (cells:=[_,_,_]) G G G G) (Kept.all _) ?_
  rintro _ _ ⟨b30,rfl,rfl⟩
  refine ⟨(by repeat (first|exact trivial|exact zG G (zS G)|exact zL G G G|exact zX G (by assumption) G|exact zH G (by assumption) G|exact zH G (by assumption) (by assumption)|refine ⟨?_,?_⟩)),?_⟩
  have hI:=hnum b30
  change Spec _ _ _ _ (h+pt b30 (.cells [.int .i64 s.outs[k].epoch,.int .i64 s.outs[k].lo,.int .i64 s.outs[k].hi].toArray 3 (0,0))) _ at hI
  refine W_call G G G G (zQ G G G) hI (Kept.all _) ?_
  rintro v5 _ ⟨h5,ho5,rfl⟩
  refine ⟨(by repeat (first|exact trivial|exact zG G (zS G)|exact zL G G G|exact zX G (by assumption) G|exact zH G (by assumption) G|exact zH G (by assumption) (by assumption)|refine ⟨?_,?_⟩)),?_⟩
  skip
  refine W_call G G G G (zQ G G G) (putBlob_spec w0 (X+h5) v5 _ _ s.outs[k].data (ho5.rd (R:=X)) (hdat.frame) (by simp only [List.length_append,be8_length,List.map_cons,List.map_nil,List.flatten_cons,List.flatten_nil,List.length_nil]; omega)) (Kept.all _) ?_
  rintro v6 _ ⟨h6,ho6,rfl⟩
  refine ⟨(by repeat (first|exact trivial|exact zG G (zS G)|exact zL G G G|exact zX G (by assumption) G|exact zH G (by assumption) G|exact zH G (by assumption) (by assumption)|refine ⟨?_,?_⟩)),?_⟩
  repeat (first|refine yJ ?_|refine yI G G G G G ?_)
  repeat (first|refine zB ?_|refine zE ?_|refine zK G G G ?_|refine L_add G G (by omega) (by omega) G G ?_)
  refine ⟨hx,_,(by repeat (first|exact zT _|refine zO G ?_)),v6,h6,_,rfl,?_,yK.out⟩
  rw [flat_take encOut hx]
  simpa only [encOut,blob,List.append_assoc,List.map_cons,List.map_nil,List.flatten_cons,List.flatten_nil,List.append_nil] using ho6
 ·rw [List.take_of_length_le (by omega)] at ho
  repeat (first|refine zF ?_|refine yD ?_|refine zB ?_|refine zE ?_|refine zK G G G ?_|refine zZ G G G G G ?_|refine L_ld G G G G G ?_|refine L_len G G G ?_|refine zI G ?_)
  refine zY G G (zQ G G G) (putInt_spec w0 h vo _ s.sess.length ho.rdh (by simp only [List.length_append,be8_length]; omega)) ?_
  rintro v12 _ ⟨h12,ho12,rfl⟩
  repeat (first|refine zF ?_|refine zR ?_|refine zB ?_|refine zE ?_|refine zK G G G ?_|refine zZ G G G G G ?_|refine L_ld G G G G G ?_|refine L_len G G G ?_)
  generalize hcur2:cur++be8 s.outs.length++(s.outs.map encOut).flatten=cur2 at ho12
  have hcl2:cur2.length=cur.length+8+(s.outs.map encOut).flatten.length:=by rw [← hcur2]; simp only [List.length_append,be8_length]
  refine hold_count s.sess.length (fun k g L=>∃ (vo:Value) (h R:Hp),g=[(3,vo),(63,.slice a7 s.sess.length c7),(64,.int .i64 s.sess.length),(65,.int .i64 k)]∧OwL w0 0 (cur2++be8 s.sess.length++((s.sess.take k).map encSes).flatten) vo h∧L=X+h+fr+R) _
   ⟨v12,h12,_,rfl,by simpa using ho12,yK.out⟩ (by repeat (first|exact zT _|refine zO G ?_)) ?_
  clear ho12 ho
  rintro k g L hk ⟨vo,h,R,rfl,ho,rfl⟩
  repeat (first|refine zF ?_|refine zB ?_)
  refine yG G G (pv_lss G G) (fun n1=>?_) (fun n1=>?_)
  ·have hx:k<s.sess.length:=by omega
   obtain ⟨b2,o2,rfl,e,⟨a13,c13,rfl,hdat⟩,hat⟩:=r7.at hx
   have hst:=flat_step encSes hx
   have hel:(encSes s.sess[k]).length=32+s.sess[k].res.data.length:=by simp only [encSes,blob,List.length_append,be8_length]; omega
   have hnum:=fun b30=>numbers22_spec w0 (h+intsAt b30 [s.sess[k].client,s.sess[k].seq,s.sess[k].res.code]) vo (.slice (some ⟨b30,0,none⟩) 3 3) _ [s.sess[k].client,s.sess[k].seq,s.sess[k].res.code] (ho.rd (R:=intsAt b30 [s.sess[k].client,s.sess[k].seq,s.sess[k].res.code])) ((ints_block (b:=b30) [s.sess[k].client,s.sess[k].seq,s.sess[k].res.code] (by simp)).frame) (by simp only [List.length_append,be8_length]; omega) (by simp) (by simp)
   repeat (first|refine zF ?_|refine zR ?_|refine zB ?_|refine zE ?_|refine zP ?_|refine zJ G ?_|refine L_idx G G (by omega) G G ?_|refine L_atA G (by assumption) G G G G ?_|refine L_stA G (vs:=[_,_,_,_]) G G G G (c':=[_,_,_,_]) G G ?_|refine L_alloc (c:=[_,_,_,_]) G G G (fun _=>?_))
   refine yC [8,9,13] [0,1,2,3,4,5,6,7,10,11,12,8,9,13,14] (by kernel_rfl) G (by kernel_rfl) (by kernel_rfl) ?_
   repeat (first|refine yI G G G G G ?_|refine yE G G G G (yA G G G) ?_|refine W_load G G G G (yF G) (zG G (zS G)) ?_)
   refine W_eff G G G G (ev_buildSlice (vs:=[_,_,_]) (cells:=[_,_,_]) G G G G) (Kept.all _) ?_
   rintro _ _ ⟨b30,rfl,rfl⟩
   refine ⟨(by repeat (first|exact trivial|exact zG G (zS G)|exact zL G G G|exact zX G (by assumption) G|exact zH G (by assumption) G|exact zH G (by assumption) (by assumption)|refine ⟨?_,?_⟩)),?_⟩
   have hI:=hnum b30
   change Spec _ _ _ _ (h+pt b30 (.cells [.int .i64 s.sess[k].client,.int .i64 s.sess[k].seq,.int .i64 s.sess[k].res.code].toArray 3 (0,0))) _ at hI
   refine W_call G G G G (zQ G G G) hI (Kept.all _) ?_
   rintro v5 _ ⟨h5,ho5,rfl⟩
   refine ⟨(by repeat (first|exact trivial|exact zG G (zS G)|exact zL G G G|exact zX G (by assumption) G|exact zH G (by assumption) G|exact zH G (by assumption) (by assumption)|refine ⟨?_,?_⟩)),?_⟩
   skip
   refine W_call G G G G (zQ G G G) (putBlob_spec w0 (X+h5) v5 _ _ s.sess[k].res.data (ho5.rd (R:=X)) (hdat.frame) (by simp only [List.length_append,be8_length,List.map_cons,List.map_nil,List.flatten_cons,List.flatten_nil,List.length_nil]; omega)) (Kept.all _) ?_
   rintro v6 _ ⟨h6,ho6,rfl⟩
   refine ⟨(by repeat (first|exact trivial|exact zG G (zS G)|exact zL G G G|exact zX G (by assumption) G|exact zH G (by assumption) G|exact zH G (by assumption) (by assumption)|refine ⟨?_,?_⟩)),?_⟩
   repeat (first|refine yJ ?_|refine yI G G G G G ?_)
   repeat (first|refine zB ?_|refine zE ?_|refine zK G G G ?_|refine L_add G G (by omega) (by omega) G G ?_)
   refine ⟨hx,_,(by repeat (first|exact zT _|refine zO G ?_)),v6,h6,_,rfl,?_,yK.out⟩
   rw [flat_take encSes hx]
   simpa only [encSes,blob,List.append_assoc,List.map_cons,List.map_nil,List.flatten_cons,List.flatten_nil,List.append_nil] using ho6
  ·rw [List.take_of_length_le (by omega)] at ho
   repeat (first|refine zF ?_|refine yD ?_|refine zB ?_|refine zE ?_|refine zK G G G ?_|refine zM ?_|refine zI G ?_)
   refine ⟨[_],X+h,_,⟨rfl,trivial⟩,⟨h,?_,rfl⟩,yK.out⟩
   have e9:encShd s=cur2++be8 s.sess.length++(s.sess.map encSes).flatten:=by
    rw [← hcur2,← hcur]
    simp only [encShd,encL',List.append_assoc]
   rw [e9]
   exact ho
end Sl
end Go.Proofs.YtpkealohodeifaaGreat
namespace Go.Proofs.YtpkealohodeifaaGreat
open Go Go.RowKit
namespace Sl
def okV (ops:Array Oper) (eff:List Nat) (j:Nat):Array Bool→List Nat→Bool
 | _,[]=>false
 | listed,i::s=>if i==j then Region.ready .any ops listed==[j]&&okOrder ops eff (listed.setIfInBounds j true) s
  else (if eff.contains i then (Region.ready .any ops listed).all (fun k=>k==i||k==j)&&(Region.ready .any ops listed).contains i else (Region.ready .any ops listed).contains i&&Region.free .any ops listed i)&&okV ops eff j (listed.setIfInBounds i true) s
def HoldA (P:Program) (n:Nat) (w0:World) (ops:Array Oper) (eff:List Nat) (j:Nat) (W:Watched) (listed:Array Bool) (s:List Nat) (Q:Post) (g:Env) (L:Hp):Prop :=
 okV ops eff j listed s=true→okOrder ops eff (listed.setIfInBounds j true) (s.erase j)=true→Closed ops listed→NP Q→Region.noSelect ops=true→(∀ p∈W,Loads P w0 L p.2.1 p.2.2.1 p.2.2.2) →
  ∀ a w,Fits n a g→St w0 w L→WG P ops (lift n w0 Q) s.length (W.at P) listed a w
def HoldV (P:Program) (n:Nat) (w0:World) (ops:Array Oper) (eff:List Nat) (j d:Nat) (z:List Value) (t:TypeId) (W:Watched) (listed:Array Bool) (s:List Nat) (Q:Post) (g:Env) (L:Hp):Prop :=
 HoldA P n w0 ops eff j W listed s Q g L∧∀ b,HoldW P n w0 ops eff W (listed.setIfInBounds j true) (s.erase j) Q ((d,.pointer (some ⟨b,0,none⟩))::g) (pt b (.cells z.toArray t (0,0))+L)
theorem sub_swap {g:Env} {d e:Nat} {u v:Value} (h:e≠d):Sub ((e,v)::(d,u)::g) ((d,u)::(e,v)::g):=by
 intro x y hx
 simp only [look] at hx ⊢
 by_cases h1:d=x
 ·subst h1
  rw [if_neg h]; simpa using hx
 ·rw [if_neg h1] at hx
  by_cases h2:e=x
  ·subst h2; simpa using hx
  ·rw [if_neg h2] at hx ⊢; rw [if_neg h1]; exact hx
theorem sub_putE {g:Env} {d:Nat} {u v:Value} {dst:Option Nat} (h:dst.all (· != d)=true):Sub (putE ((d,u)::g) dst v) ((d,u)::putE g dst v):=by
 cases dst with
 | none=>exact Sub.refl _
 | some e=>exact sub_swap (by simpa using h)
section
variable {P:Program} {n:Nat} {w0:World} {Q:Post} {g:Env} {L:Hp} {ops:Array Oper} {eff:List Nat} {W:Watched} {listed:Array Bool} {s:List Nat} {j d:Nat} {z:List Value} {t:TypeId}
theorem holdW_env {g':Env} (hs:Sub g g') (h:HoldW P n w0 ops eff W listed s Q g' L):HoldW P n w0 ops eff W listed s Q g L:=fun h1 h2 h3 h4 h5 a w ha hw=>h h1 h2 h3 h4 h5 a w (ha.sub hs) hw
theorem Loads.extra {b:Nat} {o:Obj} {t':TypeId} {ad:Addr} {v:Value} (h:Loads P w0 L t' ad v):Loads P w0 (pt b o+L) t' ad v:=fun w hw=>h w hw.right
theorem setIf_comm {l:Array Bool} {i k:Nat} (h:i≠k):(l.setIfInBounds i true).setIfInBounds k true=(l.setIfInBounds k true).setIfInBounds i true:=Array.setIfInBounds_comm _ _ h
theorem V_take {i:Nat} {o:Oper} {v:Value} (S:World→Prop) (W':Watched) (hij:(i==j)=false) (hi:ops[i]?=some o) (heff:eff.contains i=false) (hd:o.dst.all (·<n)=true) (hdd:o.dst.all (· != d)=true)
  (hW':∀ p∈(i,S)::Watched.at P W,p∈Watched.at P W'∨∀ w,p.2 w) (hS:∀ w,St w0 w L→S w) (hlW:∀ L',(∀ w,St w0 w L'→St w0 w L)→(∀ p∈W,Loads P w0 L' p.2.1 p.2.2.1 p.2.2.2)→∀ p∈W',Loads P w0 L' p.2.1 p.2.2.1 p.2.2.2)
  (hy:∀ a,Fits n a g→YieldsIf P ops S o v a) (hyB:∀ b a,Fits n a ((d,.pointer (some ⟨b,0,none⟩))::g)→YieldsIf P ops S o v a)
  (hk:HoldV P n w0 ops eff j d z t W' (listed.setIfInBounds i true) s Q (putE g o.dst v) L):HoldV P n w0 ops eff j d z t W listed (i::s) Q g L:=by
 have hne:i≠j:=by simpa using hij
 have her:(i::s).erase j=i::s.erase j:=by rw [List.erase_cons_tail]; simpa using hij
 constructor
 ·intro hok hokB hc hq hsel hW a w ha hst
  simp only [okV,hij,heff,Bool.and_eq_true,Bool.false_eq_true,if_false] at hok
  obtain ⟨⟨h1,h2⟩,h3⟩:=hok
  have hr:i∈Region.ready .any ops listed:=by simpa using h1
  rw [her] at hokB
  simp only [okOrder,Bool.and_eq_true] at hokB
  have hB:=hokB.2
  rw [setIf_comm hne.symm] at hB
  have H:=hk.1 h3 hB (hc.set hr) hq hsel (hlW L (fun _ h=>h) hW) (a.put o.dst v) w (ha.put hd v) hst
  exact WG_first hi (Region.noSelect_spec hsel) (fun c a w=>lift_np c a w) s.length (W.at P) listed a w hc
   (fun k ok hok' hne' hun hno=>Region.free_spec hi h2 k ok hok' hne' hun hno) hr (hy a ha) (hS w hst) (watch_holds hW hst) (WG_sub _ _ _ _ _ _ hW' H)
 ·intro b
  rw [her]
  have hkb:=hk.2 b
  rw [setIf_comm hne] at hkb
  refine W_take S W' hi heff hd hW' (fun w hw=>hS w hw.right) (fun hW=>hlW _ (fun w hw=>hw.right) hW) (hyB b) (holdW_env (sub_putE hdd) hkb)
theorem okV_mem :∀ {s:List Nat} {listed:Array Bool},okV ops eff j listed s=true→j∈s
 | [],_,h=>by simp [okV] at h
 | i::s,listed,h=>by
  unfold okV at h
  split at h
  ·rename_i e; rw [beq_iff_eq] at e; subst e; simp
  ·rw [Bool.and_eq_true] at h
   exact List.mem_cons_of_mem _ (okV_mem h.2)
theorem V_pure {i:Nat} {dst:Option Nat} {op:Op} {ty:TypeId} {pos:String} {af:Array Edge} (hi:ops[i]?=some ⟨dst,op,ty,pos,af,none⟩) {v:Value} (h:PV P g op v) (hB:∀ p,PV P ((d,p)::g) op v) (hij:(i==j)=false) (heff:eff.contains i=false) (hd:dst.all (·<n)=true) (hdd:dst.all (· != d)=true)
  (hk:HoldV P n w0 ops eff j d z t W (listed.setIfInBounds i true) s Q (putE g dst v) L):HoldV P n w0 ops eff j d z t W listed (i::s) Q g L :=
 V_take (fun _=>True) W hij hi heff hd hdd (fun p hp=>by rcases List.mem_cons.1 hp with rfl|hp; exact .inr fun _=>trivial; exact .inl hp) (fun _ _=>trivial) (fun _ _ h=>h)
  (fun a ha=>.inl ⟨wanted_of (o:=⟨dst,op,ty,pos,af,none⟩) (g:=g) ha G,fun w _=>h ⟨dst,op,ty,pos,af,none⟩ a w n G ha⟩)
  (fun b a ha=>.inl ⟨wanted_of (o:=⟨dst,op,ty,pos,af,none⟩) (g:=(d,.pointer (some ⟨b,0,none⟩))::g) ha G,fun w _=>hB _ ⟨dst,op,ty,pos,af,none⟩ a w n G ha⟩) hk
theorem V_of {i:Nat} {dst:Option Nat} {op:Op} {ty:TypeId} {pos:String} {af:Array Edge} (hi:ops[i]?=some ⟨dst,op,ty,pos,af,none⟩) {v:Value} (h:pureV g op=some v) (hB:∀ p,pureV ((d,p)::g) op=some v) (hij:(i==j)=false) (heff:eff.contains i=false) (hd:dst.all (·<n)=true) (hdd:dst.all (· != d)=true)
  (hk:HoldV P n w0 ops eff j d z t W (listed.setIfInBounds i true) s Q (putE g dst v) L):HoldV P n w0 ops eff j d z t W listed (i::s) Q g L:=V_pure hi (pv_of h) (fun p=>pv_of (hB p)) hij heff hd hdd hk
theorem V_load {i:Nat} {dst:Option Nat} {x:Operand} {tl:TypeId} {ty:TypeId} {pos:String} {af:Array Edge} (hi:ops[i]?=some ⟨dst,.load tl x,ty,pos,af,none⟩) {ad:Addr} {v:Value} (h:ev g x=some (.pointer (some ad))) (hB:∀ p,ev ((d,p)::g) x=some (.pointer (some ad)))
  (hr:Loads P w0 L tl ad v) (hij:(i==j)=false) (heff:eff.contains i=false) (hd:dst.all (·<n)=true) (hdd:dst.all (· != d)=true)
  (hk:HoldV P n w0 ops eff j d z t ((i,tl,ad,v)::W) (listed.setIfInBounds i true) s Q (putE g dst v) L):HoldV P n w0 ops eff j d z t W listed (i::s) Q g L :=
 V_take (fun w=>(loadVar tl ad).run P w=.ok v w) ((i,tl,ad,v)::W) hij hi heff hd hdd (fun p hp=>.inl hp) (fun w hst=>hr w hst)
  (fun L' hL' hW p hp=>by
   rcases List.mem_cons.1 hp with rfl|hp
   ·exact fun w hw=>hr w (hL' w hw)
   ·exact hW p hp)
  (fun a ha=>.inl ⟨wanted_of (o:=⟨dst,.load tl x,ty,pos,af,none⟩) (g:=g) ha G,fun w hS=>by rw [yF h ⟨dst,.load tl x,ty,pos,af,none⟩ a n G ha]; simp only [Sem.run_bind,hS,Result.andThen_ok,Sem.run_pure]⟩)
  (fun b a ha=>.inl ⟨wanted_of (o:=⟨dst,.load tl x,ty,pos,af,none⟩) (g:=(d,.pointer (some ⟨b,0,none⟩))::g) ha G,fun w hS=>by rw [yF (hB _) ⟨dst,.load tl x,ty,pos,af,none⟩ a n G ha]; simp only [Sem.run_bind,hS,Result.andThen_ok,Sem.run_pure]⟩) hk
theorem AllLoads.extra {b:Nat} {o:Obj} {W:Watched} (h:AllLoads P w0 L W):AllLoads P w0 (pt b o+L) W:=by
 induction W with
 | nil=>trivial
 | cons p W ih=>exact ⟨h.1.extra,ih h.2⟩
theorem V_now {ty:TypeId} {pos:String} {af:Array Edge} {sz by':Nat} {zv:Value} [hI:Inf P t sz by' zv] (hj:ops[j]?=some ⟨some d,.alloc t,ty,pos,af,none⟩) (hz:zv.cells.toList=z) (heff:eff.contains j=true) (hd:decide (d<n)=true)
  (hk:∀ b,HoldW P n w0 ops eff W (listed.setIfInBounds j true) s Q ((d,.pointer (some ⟨b,0,none⟩))::g) (pt b (.cells z.toArray t (0,0))+L)):HoldV P n w0 ops eff j d z t W listed (j::s) Q g L:=by
 have her:(j::s).erase j=s:=by simp
 constructor
 ·intro hok hokB hc hq hsel hW a w ha hst
  simp only [okV,beq_self_eq_true,if_true,Bool.and_eq_true,beq_iff_eq] at hok
  obtain ⟨h1,h3⟩:=hok
  have hH:HoldW P n w0 ops eff W listed (j::s) Q g L:=by
   refine W_eff hj heff G (by simpa using hd) (ev_alloc (t:=t)) (Kept.all _) ?_
   rintro _ _ ⟨b,rfl,rfl⟩
   have e:pt b (.cells zv.cells t)=pt b (.cells z.toArray t (0,0)):=by rw [← hz]
   rw [e]
   exact ⟨AllLoads.extra (by
    clear hk
    induction W with
    | nil=>trivial
    | cons p W ih=>exact ⟨hW p (by simp),ih (fun q hq=>hW q (by simp [hq]))⟩),hk b⟩
  exact hH (by simp only [okOrder,heff,if_true,Bool.and_eq_true,beq_iff_eq]; exact ⟨h1,h3⟩) hc hq hsel hW a w ha hst
 ·intro b
  rw [her]
  exact hk b
theorem V_call {i:Nat} {dst:Option Nat} {op:Op} {ty tyj:TypeId} {pos posj:String} {af afj:Array Edge} {sz by':Nat} {zv:Value} [hI:Inf P t sz by' zv] (hj:ops[j]?=some ⟨some d,.alloc t,tyj,posj,afj,none⟩) (hz:zv.cells.toList=z) (heffj:eff.contains j=true) (hdj:decide (d<n)=true)
  (hi:ops[i]?=some ⟨dst,op,ty,pos,af,none⟩) {k:FuncId} {args:List Value} (h:CV P g op k args) (hB:∀ p,CV P ((d,p)::g) op k args) {pre R:Hp} {post:Value→Hp→Prop} (hs:Spec P w0 k args pre post) [hL:yK pre L R] {W':Watched} (hW':Kept ops i W W')
  (hij:(i==j)=false) (heff:eff.contains i=true) (hd:dst.all (·<n)=true) (hdd:dst.all (· != d)=true)
  (hk:∀ v h,post v h→AllLoads P w0 (h+R) W'∧HoldV P n w0 ops eff j d z t W' (listed.setIfInBounds i true) s Q (putE g dst v) (h+R)):HoldV P n w0 ops eff j d z t W listed (i::s) Q g L:=by
 have hne:i≠j:=by simpa using hij
 have her:(i::s).erase j=i::s.erase j:=by rw [List.erase_cons_tail]; simpa using hij
 have B:∀ b,HoldW P n w0 ops eff W (listed.setIfInBounds j true) ((i::s).erase j) Q ((d,.pointer (some ⟨b,0,none⟩))::g) (pt b (.cells z.toArray t (0,0))+L):=by
  intro b
  rw [her]
  haveI:yK pre (pt b (.cells z.toArray t (0,0))+L) (pt b (.cells z.toArray t (0,0))+R):=⟨by rw [hL.out]; ac_rfl⟩
  refine W_call hi heff G hd (hB _) hs hW' fun v h2 hp=>?_
  obtain ⟨k1,k2⟩:=hk v h2 hp
  have e:h2+(pt b (.cells z.toArray t (0,0))+R)=pt b (.cells z.toArray t (0,0))+(h2+R):=by ac_rfl
  rw [e]
  refine ⟨k1.extra,?_⟩
  have:=k2.2 b
  rw [setIf_comm hne] at this
  exact holdW_env (sub_putE hdd) this
 refine ⟨?_,B⟩
 intro hok hokB hc hq hsel hW a w ha hst
 simp only [okV,hij,heff,Bool.and_eq_true,if_true,Bool.false_eq_true,if_false] at hok
 obtain ⟨⟨h1,h2⟩,h3⟩:=hok
 refine ⟨fun e=>(by rw [e] at h2; simp at h2),fun q hq'=>?_⟩
 have hqq:=List.all_eq_true.1 h1 q hq'
 simp only [Bool.or_eq_true,beq_iff_eq] at hqq
 rcases hqq with hqq|hqq
 ·subst hqq
  unfold wpOp
  simp only [hi,wanted_of (o:=⟨dst,op,ty,pos,af,none⟩) (g:=g) ha G,if_true]
  left
  unfold Oper.wp
  rw [h ⟨dst,op,ty,pos,af,none⟩ a w n G ha]
  have hst2:=hst
  rw [hL.out] at hst2
  refine Calls.mono (hs w R hst2) ?_
  rintro e w' ⟨v,h',rfl,hp,hst'⟩
  obtain ⟨k1,k2⟩:=hk v h' hp
  have hh:=watch_holds k1.all hst'
  rw [her] at hokB
  simp only [okOrder,heff,if_true,Bool.and_eq_true] at hokB
  have hB2:=hokB.2
  rw [setIf_comm hne.symm] at hB2
  exact ⟨fun p hp=>(hW'.at p hp).elim (hh p) (fun h=>h w'),WG_sub _ _ _ _ _ _ hW'.at (k2.1 h3 hB2 (hc.set hq') hq hsel k1.all _ w' (ha.put hd v) hst')⟩
 ·subst hqq
  unfold wpOp
  simp only [hj,wanted_of (o:=⟨some d,.alloc t,tyj,posj,afj,none⟩) (g:=g) ha G,if_true]
  left
  unfold Oper.wp
  obtain ⟨v,w',L',hrun,⟨b,rfl,rfl⟩,hst'⟩:=ev_alloc (P:=P) (w0:=w0) (L:=L) (g:=g) (t:=t) ⟨some d,.alloc t,tyj,posj,afj,none⟩ a w n rfl ha hst
  have e:pt b (.cells zv.cells t)=pt b (.cells z.toArray t (0,0)):=by rw [← hz]
  rw [e] at hst'
  have hWx:∀ p∈W,Loads P w0 (pt b (.cells z.toArray t (0,0))+L) p.2.1 p.2.2.1 p.2.2.2:=fun p hp=>(hW p hp).extra
  have hB:=B b hokB (hc.set hq') hq hsel hWx (a.put (some d) (.pointer (some ⟨b,0,none⟩))) w' (ha.put (by simpa using hdj) _) hst'
  have hlen:((i::s).erase q).length=s.length:=by
   rw [List.length_erase_of_mem (List.mem_cons_of_mem _ (okV_mem h3))]; simp
  rw [hlen] at hB
  have hsub:∀ p∈(W.at P).past ops q,p∈W.at P∨∀ w,p.2 w:=fun p hp=>.inl (List.mem_filter.1 hp).1
  have hh:=watch_holds hWx hst'
  rcases hrun with hrun|⟨hrun,hu⟩
  ·rw [hrun]
   exact ⟨fun p hp=>hh p (List.mem_filter.1 hp).1,WG_sub _ _ _ _ _ _ hsub hB⟩
  ·cases hu
theorem hold_drawV {id:Nat} [hq:NP Q] (eff:List Nat) (s:List Nat) (j d:Nat) (z:List Value) (t:TypeId) (hm:P.follows .mixedOrders=true) (hl:s.length=ops.size) (hs:Region.noSelect ops=true)
  (hok:okV ops eff j (Array.replicate ops.size false) s=true) (hokB:okOrder ops eff ((Array.replicate ops.size false).setIfInBounds j true) (s.erase j)=true) (h:HoldV P n w0 ops eff j d z t [] (Array.replicate ops.size false) s Q g L):Hold P n w0 (.region id ops true) Q g L:=by
 intro a w ha hst
 refine wp_region_any hm (WG_any _ [] _ _ _ ?_)
 rw [← hl]
 have:=h.1 hok hokB (Closed.start ops _) hq hs (by simp) a { w with drawn:=w.drawn+1 } ha hst.drew
 rw [← hl] at this
 exact this
end
end Sl
end Go.Proofs.YtpkealohodeifaaGreat
namespace Go.Proofs.YtpkealohodeifaaGreat
open Go Go.RowKit
namespace Sl
set_option maxHeartbeats 8000000
set_option maxRecDepth 4000
attribute [local irreducible] Hold HoldL HoldW HoldV
def Hl (l:List (Nat × List Value × TypeId)):Hp:=hsum (l.map fun x=>pt x.1 (.cells x.2.1.toArray x.2.2 (0,0)))
def Plain (h:Hp):Prop:=∃ l,h=Hl l
theorem Plain.zero :Plain 0:=⟨[],rfl⟩
theorem Plain.pt (b:Nat) (c:List Value) (e:TypeId):Plain (pt b (.cells c.toArray e (0,0))):=⟨[(b,c,e)],(yB _).symm⟩
theorem Plain.add {a b:Hp} (h:Plain a) (k:Plain b):Plain (a+b):=by
 obtain ⟨l,rfl⟩:=h
 obtain ⟨m,rfl⟩:=k
 exact ⟨l++m,by unfold Hl; rw [List.map_append,hsum_append]⟩
theorem OwL.plain {α:Type} [ρ:Rep α] {w0:World} {X h:Hp} {v:Value} {xs:List α} (H:OwL w0 X xs v h):Plain h:=by
 obtain ⟨es,⟨_,⟨_,_,_,rfl⟩|⟨b,cap,spare,_,rfl,_⟩⟩,_⟩:=H
 ·exact Plain.zero
 ·exact Plain.pt _ _ _
def manyS {σ α:Type} (f:σ→α × σ):Nat→σ→List α × σ
 | 0,s=>([],s)
 | k+1,s=>((manyS f k s).1++[(f (manyS f k s).2).1],(f (manyS f k s).2).2)
theorem manyS_length {σ α:Type} (f:σ→α × σ):∀ k s,(manyS f k s).1.length=k
 | 0,_=>rfl
 | k+1,s=>by simp [manyS,manyS_length f k s]
theorem manyS_len {α:Type} {f:RS × Bool→α × (RS × Bool)} (hf:∀ s,(f s).2.1.left.length≤s.1.left.length):∀ k s,(manyS f k s).2.1.left.length≤s.1.left.length
 | 0,_=>Nat.le_refl _
 | k+1,s=>Nat.le_trans (hf _) (manyS_len hf k s)
def listV {α:Type} (one:RS × Bool→α × (RS × Bool)) (least:Nat) (s:RS × Bool):List α × (RS × Bool) :=
 if 0≤intV s.1∧intV s.1≤((intS s.1).left.length / least:Nat) then manyS one (intV s.1).toNat (intS s.1,s.2) else ([],(⟨[],true⟩,s.2))
theorem listV_len {α:Type} {one:RS × Bool→α × (RS × Bool)} (hf:∀ s,(one s).2.1.left.length≤s.1.left.length) (least:Nat) (s:RS × Bool):(listV one least s).2.1.left.length≤s.1.left.length:=by
 unfold listV
 split
 ·exact Nat.le_trans (manyS_len hf _ _) (takeS_len _ _)
 ·simp
theorem listKpt_spec (w0:World) (D:Hp) (b:Nat) (C:Bool→Hp) (k0:Nat) [hf:Fun Tryz.prog k0] (caps:List Value) (one:RS × Bool→Kpt × (RS × Bool)) (least:Nat) (hleast:1≤least∧least≤1000) (s:RS × Bool) (h:Hp) (hr:RdrAt w0 D b s.1 h) (hl:s.1.left.length≤1000000000000)
  (hlen:∀ s,(one s).2.1.left.length≤s.1.left.length)
  (hone:∀ (s:RS × Bool) (h:Hp),s.1.left.length≤1000000000000→RdrAt w0 D b s.1 h→Spec Tryz.prog w0 k0 caps (D+C s.2+h) (fun r h'=>∃ e E h2,r=.agg e.toArray∧Plain E∧Rep.rd w0 (D+E) (one s).1 e∧RdrAt w0 D b (one s).2.1 h2∧D+C (one s).2.2+E+h2=h')) :
  Spec Tryz.prog w0 143 [.pointer (some ⟨b,0,none⟩),.int .i64 (least:Int),.func (.func k0) #[] caps.toArray] (D+C s.2+h)
   (fun r h'=>∃ E h2 h3,Plain E∧OwL w0 (D+E) (listV one least s).1 r h3∧RdrAt w0 D b (listV one least s).2.1 h2∧D+C (listV one least s).2.2+E+h2+h3=h'):=by
 obtain ⟨st,odd⟩:=s
 change st.left.length≤_ at hl
 change RdrAt w0 D b st h at hr
 change Spec _ _ _ _ (D+C odd+h) _
 have hl1:(intS st).left.length≤1000000000000:=by have:=takeS_len st 8; unfold intS; omega
 refine zN Tryz.func143 G Tryz.ntmps143 Tryz.results143 G fun fr=>?_
 repeat (first|refine zF ?_|refine zB ?_|refine zE ?_|refine zK G G G ?_)
 refine zY G G (zQ G G G) (getInt_spec w0 D b st h hr hl) ?_
 rintro _ _ ⟨h1,rfl,hr1,rfl⟩
 repeat (first|refine zF ?_|refine zB ?_|refine zE ?_|refine zK G G G ?_)
 refine yG G G (pv_lss G G) (fun n1=>?_) (fun n1=>?_)
 ·have hno:listV one least (st,odd)=([],(⟨[],true⟩,odd)):=by unfold listV; rw [if_neg (fun h=>by have:=h.1; simp only at this; omega)]
  rw [hno]
  repeat (first|refine zF ?_|refine zR ?_|refine zE ?_|refine zK G G G ?_|refine L_skip G G ?_|refine zJ G ?_)
  refine hold_loop (fun m g L=>∃ (s:RS) (h2 R:Hp),s.wf∧m=s.left.length+(if s.bad=true then 0 else 1)∧s.left.length≤1000000000000∧g=[(0,.pointer (some ⟨b,0,none⟩))]∧RdrAt w0 D b s h2∧L=D+C odd+h2+fr+R) _ _
   ⟨intS st,h1,0,takeS_wf _ _,rfl,hl1,rfl,hr1,by simp only [yB]; ac_rfl⟩ (by repeat (first|exact zT _|refine zO G ?_)) ?_
  rintro m g L ⟨s,h2,R,hwf,rfl,hsl,rfl,hrs,rfl⟩
  repeat (first|refine zF ?_|refine zB ?_|refine zK G G G ?_)
  refine zY G G (zQ G G G) (bad02_spec w0 D b s h2 hrs) ?_
  rintro _ _ ⟨rfl,rfl⟩
  cases hb:s.bad
  ·repeat (first|refine zR ?_|refine zB ?_|refine zE ?_|refine zK G G G ?_|refine zP ?_|refine zJ G ?_)
   refine zY G G (zQ G G G) (getInt_spec w0 D b s h2 hrs hsl) ?_
   rintro _ _ ⟨h3,rfl,hr3,rfl⟩
   repeat (refine zE ?_)
   refine ⟨_,_,?_,(by repeat (first|exact zT _|refine zO G ?_)),intS s,h3,_,takeS_wf _ _,rfl,by have:=takeS_len s 8; unfold intS; omega,rfl,hr3,yK.out⟩
   unfold intS takeS
   split
   ·rename_i ht
    have:(8:Int)≤s.left.length:=by simp [takeOk,hb] at ht; exact_mod_cast ht
    simp; omega
   ·simp
  ·have hs:s=⟨[],true⟩:=by
    obtain ⟨l,bd⟩:=s
    simp only at hb
    subst hb
    obtain rfl:l=[]:=hwf rfl
    rfl
   subst hs
   repeat (first|refine zF ?_|refine yD ?_|refine zB ?_|refine zE ?_|refine zK G G G ?_|refine zM ?_|refine zI G ?_)
   exact ⟨[_],D+C odd+0+h2+0,_,⟨rfl,trivial⟩,⟨0,h2,0,Plain.zero,OwL.nil _ _,hrs,rfl⟩,by simp only [yB]; exact yK.out⟩
 ·repeat (refine zK G G G ?_)
  refine zY G G (zQ G G G) (left02_spec w0 D b (intS st) h1 hr1) ?_
  rintro _ _ ⟨rfl,rfl⟩
  repeat (refine zK G G G ?_)
  refine yH G G (pv_quo_nn G G (by omega) (by omega) (by omega)) ?_
  refine yG G G (pv_gtr G G) (fun n2=>?_) (fun n2=>?_)
  ·have hno:listV one least (st,odd)=([],(⟨[],true⟩,odd)):=by
    unfold listV
    rw [if_neg (fun h=>by have:=h.2; simp only at this; rw [Int.natCast_ediv] at this; omega)]
   rw [hno]
   repeat (first|refine zF ?_|refine zR ?_|refine zE ?_|refine zK G G G ?_|refine zJ G ?_)
   refine hold_loop (fun m g L=>∃ (s:RS) (h2 R:Hp),s.wf∧m=s.left.length+(if s.bad=true then 0 else 1)∧s.left.length≤1000000000000∧g=[(0,.pointer (some ⟨b,0,none⟩))]∧RdrAt w0 D b s h2∧L=D+C odd+h2+fr+R) _ _
    ⟨intS st,h1,0,takeS_wf _ _,rfl,hl1,rfl,hr1,by simp only [yB]; ac_rfl⟩ (by repeat (first|exact zT _|refine zO G ?_)) ?_
   rintro m g L ⟨s,h2,R,hwf,rfl,hsl,rfl,hrs,rfl⟩
   repeat (first|refine zF ?_|refine zB ?_|refine zK G G G ?_)
   refine zY G G (zQ G G G) (bad02_spec w0 D b s h2 hrs) ?_
   rintro _ _ ⟨rfl,rfl⟩
   cases hb:s.bad
   ·repeat (first|refine zR ?_|refine zB ?_|refine zE ?_|refine zK G G G ?_|refine zP ?_|refine zJ G ?_)
    refine zY G G (zQ G G G) (getInt_spec w0 D b s h2 hrs hsl) ?_
    rintro _ _ ⟨h3,rfl,hr3,rfl⟩
    repeat (refine zE ?_)
    refine ⟨_,_,?_,(by repeat (first|exact zT _|refine zO G ?_)),intS s,h3,_,takeS_wf _ _,rfl,by have:=takeS_len s 8; unfold intS; omega,rfl,hr3,yK.out⟩
    unfold intS takeS
    split
    ·rename_i ht
     have:(8:Int)≤s.left.length:=by simp [takeOk,hb] at ht; exact_mod_cast ht
     simp; omega
    ·simp
   ·have hs:s=⟨[],true⟩:=by
     obtain ⟨l,bd⟩:=s
     simp only at hb
     subst hb
     obtain rfl:l=[]:=hwf rfl
     rfl
    subst hs
    repeat (first|refine zF ?_|refine yD ?_|refine zB ?_|refine zE ?_|refine zK G G G ?_|refine zM ?_|refine zI G ?_)
    exact ⟨[_],D+C odd+0+h2+0,_,⟨rfl,trivial⟩,⟨0,h2,0,Plain.zero,OwL.nil _ _,hrs,rfl⟩,by simp only [yB]; exact yK.out⟩
  ·obtain ⟨n,hn⟩:=Int.eq_ofNat_of_zero_le (show 0≤intV st by omega)
   have hnl:n≤(intS st).left.length / least:=by
    rw [hn] at n2
    have:((intS st).left.length:Int) / (least:Int)=(((intS st).left.length / least:Nat):Int):=(Int.natCast_ediv _ _).symm
    omega
   have hn12:n≤1000000000000:=Nat.le_trans hnl (Nat.le_trans (Nat.div_le_self _ _) hl1)
   have hyes:listV one least (st,odd)=manyS one n (intS st,odd):=by
    unfold listV
    rw [if_pos ⟨by simp only; omega,by simp only; rw [hn]; omega⟩]
    simp only [hn,Int.toNat_natCast]
   rw [hyes,hn]
   repeat (first|refine zF ?_|refine zR ?_|refine zB ?_|refine zE ?_|refine zK G G G ?_|refine zP ?_|refine zI G ?_)
   refine hold_count n (fun k g L=>∃ (vo:Value) (E h2 h3 R:Hp),g=[(2,.func (.func k0) #[] caps.toArray),(8,vo),(26,.int .i64 n),(27,.int .i64 k)]∧Plain E∧OwL w0 (D+E) (manyS one k (intS st,odd)).1 vo h3∧RdrAt w0 D b (manyS one k (intS st,odd)).2.1 h2 ∧
     L=D+C (manyS one k (intS st,odd)).2.2+E+h2+h3+fr+R) _
    ⟨.slice none 0 0,0,h1,0,0,rfl,Plain.zero,OwL.nil _ _,hr1,by simp only [manyS,yB]; ac_rfl⟩ (by repeat (first|exact zT _|refine zO G ?_)) ?_
   rintro k g L hk ⟨vo,E,h2,h3,R,rfl,hpl,ho,hr2,rfl⟩
   have hml:=manyS_len hlen k (intS st,odd)
   have hmn:=manyS_length one k (intS st,odd)
   repeat (first|refine zF ?_|refine zB ?_)
   refine yG G G (pv_lss G G) (fun n3=>?_) (fun n3=>?_)
   ·repeat (first|refine zF ?_|refine zR ?_|refine zB ?_|refine zE ?_|refine zK G G G ?_|refine zP ?_|refine zJ G ?_)
    refine zY G G (zQ G G (by simp<;>rfl)) (hone (manyS one k (intS st,odd)).2 h2 (by simp only at hml; omega) hr2) ?_
    rintro _ _ ⟨e,E2,h4,rfl,hpl2,he,hr4,rfl⟩
    obtain ⟨a9,c9,rfl,_⟩:=id he
    repeat (refine L_bs (vs:=[_]) (cells:=[_,_,_]) G G G G G G (fun _=>?_))
    refine L_eff G G (ev_appendL (X:=D+(E+E2)) (ns:=[(one (manyS one k (intS st,odd)).2).1]) (h:=h3) G G (ho.mono (R:=E2) (by ac_rfl)) (rd_one G) (All2.one (Rep.mono (R:=E) (by ac_rfl) he)) G G G G G (by rw [hmn]; simp only [List.length_singleton]; omega)) ?_
    rintro vo' _ ⟨h5,ho5,rfl⟩
    have e2:(one (manyS one k (intS st,odd)).2).2=(manyS one (k+1) (intS st,odd)).2:=rfl
    rw [e2]
    repeat (first|refine zB ?_|refine zE ?_|refine zK G G G ?_|refine L_add G G (by omega) (by omega) G G ?_)
    exact ⟨by omega,_,(by repeat (first|exact zT _|refine zO G ?_)),vo',E+E2,h4,h5,_,rfl,hpl.add hpl2,ho5,hr4,yK.out⟩
   ·obtain rfl:k=n:=by omega
    repeat (first|refine zF ?_|refine yD ?_|refine zB ?_|refine zE ?_|refine zK G G G ?_|refine zM ?_|refine zI G ?_)
    exact ⟨[_],D+C (manyS one k (intS st,odd)).2.2+E+h2+h3,_,⟨rfl,trivial⟩,⟨E,h2,h3,hpl,ho,hr2,rfl⟩,yK.out⟩
theorem listWr_spec (w0:World) (D:Hp) (b:Nat) (C:Bool→Hp) (k0:Nat) [hf:Fun Tryz.prog k0] (caps:List Value) (one:RS × Bool→Wr × (RS × Bool)) (least:Nat) (hleast:1≤least∧least≤1000) (s:RS × Bool) (h:Hp) (hr:RdrAt w0 D b s.1 h) (hl:s.1.left.length≤1000000000000)
  (hlen:∀ s,(one s).2.1.left.length≤s.1.left.length)
  (hone:∀ (s:RS × Bool) (h:Hp),s.1.left.length≤1000000000000→RdrAt w0 D b s.1 h→Spec Tryz.prog w0 k0 caps (D+C s.2+h) (fun r h'=>∃ e E h2,r=.agg e.toArray∧Plain E∧Rep.rd w0 (D+E) (one s).1 e∧RdrAt w0 D b (one s).2.1 h2∧D+C (one s).2.2+E+h2=h')) :
  Spec Tryz.prog w0 55 [.pointer (some ⟨b,0,none⟩),.int .i64 (least:Int),.func (.func k0) #[] caps.toArray] (D+C s.2+h)
   (fun r h'=>∃ E h2 h3,Plain E∧OwL w0 (D+E) (listV one least s).1 r h3∧RdrAt w0 D b (listV one least s).2.1 h2∧D+C (listV one least s).2.2+E+h2+h3=h'):=by
 obtain ⟨st,odd⟩:=s
 change st.left.length≤_ at hl
 change RdrAt w0 D b st h at hr
 change Spec _ _ _ _ (D+C odd+h) _
 have hl1:(intS st).left.length≤1000000000000:=by have:=takeS_len st 8; unfold intS; omega
 refine zN Tryz.func55 G Tryz.ntmps55 Tryz.results55 G fun fr=>?_
 repeat (first|refine zF ?_|refine zB ?_|refine zE ?_|refine zK G G G ?_)
 refine zY G G (zQ G G G) (getInt_spec w0 D b st h hr hl) ?_
 rintro _ _ ⟨h1,rfl,hr1,rfl⟩
 repeat (first|refine zF ?_|refine zB ?_|refine zE ?_|refine zK G G G ?_)
 refine yG G G (pv_lss G G) (fun n1=>?_) (fun n1=>?_)
 ·have hno:listV one least (st,odd)=([],(⟨[],true⟩,odd)):=by unfold listV; rw [if_neg (fun h=>by have:=h.1; simp only at this; omega)]
  rw [hno]
  repeat (first|refine zF ?_|refine zR ?_|refine zE ?_|refine zK G G G ?_|refine L_skip G G ?_|refine zJ G ?_)
  refine hold_loop (fun m g L=>∃ (s:RS) (h2 R:Hp),s.wf∧m=s.left.length+(if s.bad=true then 0 else 1)∧s.left.length≤1000000000000∧g=[(0,.pointer (some ⟨b,0,none⟩))]∧RdrAt w0 D b s h2∧L=D+C odd+h2+fr+R) _ _
   ⟨intS st,h1,0,takeS_wf _ _,rfl,hl1,rfl,hr1,by simp only [yB]; ac_rfl⟩ (by repeat (first|exact zT _|refine zO G ?_)) ?_
  rintro m g L ⟨s,h2,R,hwf,rfl,hsl,rfl,hrs,rfl⟩
  repeat (first|refine zF ?_|refine zB ?_|refine zK G G G ?_)
  refine zY G G (zQ G G G) (bad02_spec w0 D b s h2 hrs) ?_
  rintro _ _ ⟨rfl,rfl⟩
  cases hb:s.bad
  ·repeat (first|refine zR ?_|refine zB ?_|refine zE ?_|refine zK G G G ?_|refine zP ?_|refine zJ G ?_)
   refine zY G G (zQ G G G) (getInt_spec w0 D b s h2 hrs hsl) ?_
   rintro _ _ ⟨h3,rfl,hr3,rfl⟩
   repeat (refine zE ?_)
   refine ⟨_,_,?_,(by repeat (first|exact zT _|refine zO G ?_)),intS s,h3,_,takeS_wf _ _,rfl,by have:=takeS_len s 8; unfold intS; omega,rfl,hr3,yK.out⟩
   unfold intS takeS
   split
   ·rename_i ht
    have:(8:Int)≤s.left.length:=by simp [takeOk,hb] at ht; exact_mod_cast ht
    simp; omega
   ·simp
  ·have hs:s=⟨[],true⟩:=by
    obtain ⟨l,bd⟩:=s
    simp only at hb
    subst hb
    obtain rfl:l=[]:=hwf rfl
    rfl
   subst hs
   repeat (first|refine zF ?_|refine yD ?_|refine zB ?_|refine zE ?_|refine zK G G G ?_|refine zM ?_|refine zI G ?_)
   exact ⟨[_],D+C odd+0+h2+0,_,⟨rfl,trivial⟩,⟨0,h2,0,Plain.zero,OwL.nil _ _,hrs,rfl⟩,by simp only [yB]; exact yK.out⟩
 ·repeat (refine zK G G G ?_)
  refine zY G G (zQ G G G) (left02_spec w0 D b (intS st) h1 hr1) ?_
  rintro _ _ ⟨rfl,rfl⟩
  repeat (refine zK G G G ?_)
  refine yH G G (pv_quo_nn G G (by omega) (by omega) (by omega)) ?_
  refine yG G G (pv_gtr G G) (fun n2=>?_) (fun n2=>?_)
  ·have hno:listV one least (st,odd)=([],(⟨[],true⟩,odd)):=by
    unfold listV
    rw [if_neg (fun h=>by have:=h.2; simp only at this; rw [Int.natCast_ediv] at this; omega)]
   rw [hno]
   repeat (first|refine zF ?_|refine zR ?_|refine zE ?_|refine zK G G G ?_|refine zJ G ?_)
   refine hold_loop (fun m g L=>∃ (s:RS) (h2 R:Hp),s.wf∧m=s.left.length+(if s.bad=true then 0 else 1)∧s.left.length≤1000000000000∧g=[(0,.pointer (some ⟨b,0,none⟩))]∧RdrAt w0 D b s h2∧L=D+C odd+h2+fr+R) _ _
    ⟨intS st,h1,0,takeS_wf _ _,rfl,hl1,rfl,hr1,by simp only [yB]; ac_rfl⟩ (by repeat (first|exact zT _|refine zO G ?_)) ?_
   rintro m g L ⟨s,h2,R,hwf,rfl,hsl,rfl,hrs,rfl⟩
   repeat (first|refine zF ?_|refine zB ?_|refine zK G G G ?_)
   refine zY G G (zQ G G G) (bad02_spec w0 D b s h2 hrs) ?_
   rintro _ _ ⟨rfl,rfl⟩
   cases hb:s.bad
   ·repeat (first|refine zR ?_|refine zB ?_|refine zE ?_|refine zK G G G ?_|refine zP ?_|refine zJ G ?_)
    refine zY G G (zQ G G G) (getInt_spec w0 D b s h2 hrs hsl) ?_
    rintro _ _ ⟨h3,rfl,hr3,rfl⟩
    repeat (refine zE ?_)
    refine ⟨_,_,?_,(by repeat (first|exact zT _|refine zO G ?_)),intS s,h3,_,takeS_wf _ _,rfl,by have:=takeS_len s 8; unfold intS; omega,rfl,hr3,yK.out⟩
    unfold intS takeS
    split
    ·rename_i ht
     have:(8:Int)≤s.left.length:=by simp [takeOk,hb] at ht; exact_mod_cast ht
     simp; omega
    ·simp
   ·have hs:s=⟨[],true⟩:=by
     obtain ⟨l,bd⟩:=s
     simp only at hb
     subst hb
     obtain rfl:l=[]:=hwf rfl
     rfl
    subst hs
    repeat (first|refine zF ?_|refine yD ?_|refine zB ?_|refine zE ?_|refine zK G G G ?_|refine zM ?_|refine zI G ?_)
    exact ⟨[_],D+C odd+0+h2+0,_,⟨rfl,trivial⟩,⟨0,h2,0,Plain.zero,OwL.nil _ _,hrs,rfl⟩,by simp only [yB]; exact yK.out⟩
  ·obtain ⟨n,hn⟩:=Int.eq_ofNat_of_zero_le (show 0≤intV st by omega)
   have hnl:n≤(intS st).left.length / least:=by
    rw [hn] at n2
    have:((intS st).left.length:Int) / (least:Int)=(((intS st).left.length / least:Nat):Int):=(Int.natCast_ediv _ _).symm
    omega
   have hn12:n≤1000000000000:=Nat.le_trans hnl (Nat.le_trans (Nat.div_le_self _ _) hl1)
   have hyes:listV one least (st,odd)=manyS one n (intS st,odd):=by
    unfold listV
    rw [if_pos ⟨by simp only; omega,by simp only; rw [hn]; omega⟩]
    simp only [hn,Int.toNat_natCast]
   rw [hyes,hn]
   repeat (first|refine zF ?_|refine zR ?_|refine zB ?_|refine zE ?_|refine zK G G G ?_|refine zP ?_|refine zI G ?_)
   refine hold_count n (fun k g L=>∃ (vo:Value) (E h2 h3 R:Hp),g=[(2,.func (.func k0) #[] caps.toArray),(8,vo),(26,.int .i64 n),(27,.int .i64 k)]∧Plain E∧OwL w0 (D+E) (manyS one k (intS st,odd)).1 vo h3∧RdrAt w0 D b (manyS one k (intS st,odd)).2.1 h2 ∧
     L=D+C (manyS one k (intS st,odd)).2.2+E+h2+h3+fr+R) _
    ⟨.slice none 0 0,0,h1,0,0,rfl,Plain.zero,OwL.nil _ _,hr1,by simp only [manyS,yB]; ac_rfl⟩ (by repeat (first|exact zT _|refine zO G ?_)) ?_
   rintro k g L hk ⟨vo,E,h2,h3,R,rfl,hpl,ho,hr2,rfl⟩
   have hml:=manyS_len hlen k (intS st,odd)
   have hmn:=manyS_length one k (intS st,odd)
   repeat (first|refine zF ?_|refine zB ?_)
   refine yG G G (pv_lss G G) (fun n3=>?_) (fun n3=>?_)
   ·repeat (first|refine zF ?_|refine zR ?_|refine zB ?_|refine zE ?_|refine zK G G G ?_|refine zP ?_|refine zJ G ?_)
    refine zY G G (zQ G G (by simp<;>rfl)) (hone (manyS one k (intS st,odd)).2 h2 (by simp only at hml; omega) hr2) ?_
    rintro _ _ ⟨e,E2,h4,rfl,hpl2,he,hr4,rfl⟩
    obtain ⟨a9,c9,rfl,_⟩:=id he
    repeat (refine L_bs (vs:=[_]) (cells:=[_,_]) G G G G G G (fun _=>?_))
    refine L_eff G G (ev_appendL (X:=D+(E+E2)) (ns:=[(one (manyS one k (intS st,odd)).2).1]) (h:=h3) G G (ho.mono (R:=E2) (by ac_rfl)) (rd_one G) (All2.one (Rep.mono (R:=E) (by ac_rfl) he)) G G G G G (by rw [hmn]; simp only [List.length_singleton]; omega)) ?_
    rintro vo' _ ⟨h5,ho5,rfl⟩
    have e2:(one (manyS one k (intS st,odd)).2).2=(manyS one (k+1) (intS st,odd)).2:=rfl
    rw [e2]
    repeat (first|refine zB ?_|refine zE ?_|refine zK G G G ?_|refine L_add G G (by omega) (by omega) G G ?_)
    exact ⟨by omega,_,(by repeat (first|exact zT _|refine zO G ?_)),vo',E+E2,h4,h5,_,rfl,hpl.add hpl2,ho5,hr4,yK.out⟩
   ·obtain rfl:k=n:=by omega
    repeat (first|refine zF ?_|refine yD ?_|refine zB ?_|refine zE ?_|refine zK G G G ?_|refine zM ?_|refine zI G ?_)
    exact ⟨[_],D+C (manyS one k (intS st,odd)).2.2+E+h2+h3,_,⟨rfl,trivial⟩,⟨E,h2,h3,hpl,ho,hr2,rfl⟩,yK.out⟩
theorem listOut_spec (w0:World) (D:Hp) (b:Nat) (C:Bool→Hp) (k0:Nat) [hf:Fun Tryz.prog k0] (caps:List Value) (one:RS × Bool→Outp × (RS × Bool)) (least:Nat) (hleast:1≤least∧least≤1000) (s:RS × Bool) (h:Hp) (hr:RdrAt w0 D b s.1 h) (hl:s.1.left.length≤1000000000000)
  (hlen:∀ s,(one s).2.1.left.length≤s.1.left.length)
  (hone:∀ (s:RS × Bool) (h:Hp),s.1.left.length≤1000000000000→RdrAt w0 D b s.1 h→Spec Tryz.prog w0 k0 caps (D+C s.2+h) (fun r h'=>∃ e E h2,r=.agg e.toArray∧Plain E∧Rep.rd w0 (D+E) (one s).1 e∧RdrAt w0 D b (one s).2.1 h2∧D+C (one s).2.2+E+h2=h')) :
  Spec Tryz.prog w0 58 [.pointer (some ⟨b,0,none⟩),.int .i64 (least:Int),.func (.func k0) #[] caps.toArray] (D+C s.2+h)
   (fun r h'=>∃ E h2 h3,Plain E∧OwL w0 (D+E) (listV one least s).1 r h3∧RdrAt w0 D b (listV one least s).2.1 h2∧D+C (listV one least s).2.2+E+h2+h3=h'):=by
 obtain ⟨st,odd⟩:=s
 change st.left.length≤_ at hl
 change RdrAt w0 D b st h at hr
 change Spec _ _ _ _ (D+C odd+h) _
 have hl1:(intS st).left.length≤1000000000000:=by have:=takeS_len st 8; unfold intS; omega
 refine zN Tryz.func58 G Tryz.ntmps58 Tryz.results58 G fun fr=>?_
 repeat (first|refine zF ?_|refine zB ?_|refine zE ?_|refine zK G G G ?_)
 refine zY G G (zQ G G G) (getInt_spec w0 D b st h hr hl) ?_
 rintro _ _ ⟨h1,rfl,hr1,rfl⟩
 repeat (first|refine zF ?_|refine zB ?_|refine zE ?_|refine zK G G G ?_)
 refine yG G G (pv_lss G G) (fun n1=>?_) (fun n1=>?_)
 ·have hno:listV one least (st,odd)=([],(⟨[],true⟩,odd)):=by unfold listV; rw [if_neg (fun h=>by have:=h.1; simp only at this; omega)]
  rw [hno]
  repeat (first|refine zF ?_|refine zR ?_|refine zE ?_|refine zK G G G ?_|refine L_skip G G ?_|refine zJ G ?_)
  refine hold_loop (fun m g L=>∃ (s:RS) (h2 R:Hp),s.wf∧m=s.left.length+(if s.bad=true then 0 else 1)∧s.left.length≤1000000000000∧g=[(0,.pointer (some ⟨b,0,none⟩))]∧RdrAt w0 D b s h2∧L=D+C odd+h2+fr+R) _ _
   ⟨intS st,h1,0,takeS_wf _ _,rfl,hl1,rfl,hr1,by simp only [yB]; ac_rfl⟩ (by repeat (first|exact zT _|refine zO G ?_)) ?_
  rintro m g L ⟨s,h2,R,hwf,rfl,hsl,rfl,hrs,rfl⟩
  repeat (first|refine zF ?_|refine zB ?_|refine zK G G G ?_)
  refine zY G G (zQ G G G) (bad02_spec w0 D b s h2 hrs) ?_
  rintro _ _ ⟨rfl,rfl⟩
  cases hb:s.bad
  ·repeat (first|refine zR ?_|refine zB ?_|refine zE ?_|refine zK G G G ?_|refine zP ?_|refine zJ G ?_)
   refine zY G G (zQ G G G) (getInt_spec w0 D b s h2 hrs hsl) ?_
   rintro _ _ ⟨h3,rfl,hr3,rfl⟩
   repeat (refine zE ?_)
   refine ⟨_,_,?_,(by repeat (first|exact zT _|refine zO G ?_)),intS s,h3,_,takeS_wf _ _,rfl,by have:=takeS_len s 8; unfold intS; omega,rfl,hr3,yK.out⟩
   unfold intS takeS
   split
   ·rename_i ht
    have:(8:Int)≤s.left.length:=by simp [takeOk,hb] at ht; exact_mod_cast ht
    simp; omega
   ·simp
  ·have hs:s=⟨[],true⟩:=by
    obtain ⟨l,bd⟩:=s
    simp only at hb
    subst hb
    obtain rfl:l=[]:=hwf rfl
    rfl
   subst hs
   repeat (first|refine zF ?_|refine yD ?_|refine zB ?_|refine zE ?_|refine zK G G G ?_|refine zM ?_|refine zI G ?_)
   exact ⟨[_],D+C odd+0+h2+0,_,⟨rfl,trivial⟩,⟨0,h2,0,Plain.zero,OwL.nil _ _,hrs,rfl⟩,by simp only [yB]; exact yK.out⟩
 ·repeat (refine zK G G G ?_)
  refine zY G G (zQ G G G) (left02_spec w0 D b (intS st) h1 hr1) ?_
  rintro _ _ ⟨rfl,rfl⟩
  repeat (refine zK G G G ?_)
  refine yH G G (pv_quo_nn G G (by omega) (by omega) (by omega)) ?_
  refine yG G G (pv_gtr G G) (fun n2=>?_) (fun n2=>?_)
  ·have hno:listV one least (st,odd)=([],(⟨[],true⟩,odd)):=by
    unfold listV
    rw [if_neg (fun h=>by have:=h.2; simp only at this; rw [Int.natCast_ediv] at this; omega)]
   rw [hno]
   repeat (first|refine zF ?_|refine zR ?_|refine zE ?_|refine zK G G G ?_|refine zJ G ?_)
   refine hold_loop (fun m g L=>∃ (s:RS) (h2 R:Hp),s.wf∧m=s.left.length+(if s.bad=true then 0 else 1)∧s.left.length≤1000000000000∧g=[(0,.pointer (some ⟨b,0,none⟩))]∧RdrAt w0 D b s h2∧L=D+C odd+h2+fr+R) _ _
    ⟨intS st,h1,0,takeS_wf _ _,rfl,hl1,rfl,hr1,by simp only [yB]; ac_rfl⟩ (by repeat (first|exact zT _|refine zO G ?_)) ?_
   rintro m g L ⟨s,h2,R,hwf,rfl,hsl,rfl,hrs,rfl⟩
   repeat (first|refine zF ?_|refine zB ?_|refine zK G G G ?_)
   refine zY G G (zQ G G G) (bad02_spec w0 D b s h2 hrs) ?_
   rintro _ _ ⟨rfl,rfl⟩
   cases hb:s.bad
   ·repeat (first|refine zR ?_|refine zB ?_|refine zE ?_|refine zK G G G ?_|refine zP ?_|refine zJ G ?_)
    refine zY G G (zQ G G G) (getInt_spec w0 D b s h2 hrs hsl) ?_
    rintro _ _ ⟨h3,rfl,hr3,rfl⟩
    repeat (refine zE ?_)
    refine ⟨_,_,?_,(by repeat (first|exact zT _|refine zO G ?_)),intS s,h3,_,takeS_wf _ _,rfl,by have:=takeS_len s 8; unfold intS; omega,rfl,hr3,yK.out⟩
    unfold intS takeS
    split
    ·rename_i ht
     have:(8:Int)≤s.left.length:=by simp [takeOk,hb] at ht; exact_mod_cast ht
     simp; omega
    ·simp
   ·have hs:s=⟨[],true⟩:=by
     obtain ⟨l,bd⟩:=s
     simp only at hb
     subst hb
     obtain rfl:l=[]:=hwf rfl
     rfl
    subst hs
    repeat (first|refine zF ?_|refine yD ?_|refine zB ?_|refine zE ?_|refine zK G G G ?_|refine zM ?_|refine zI G ?_)
    exact ⟨[_],D+C odd+0+h2+0,_,⟨rfl,trivial⟩,⟨0,h2,0,Plain.zero,OwL.nil _ _,hrs,rfl⟩,by simp only [yB]; exact yK.out⟩
  ·obtain ⟨n,hn⟩:=Int.eq_ofNat_of_zero_le (show 0≤intV st by omega)
   have hnl:n≤(intS st).left.length / least:=by
    rw [hn] at n2
    have:((intS st).left.length:Int) / (least:Int)=(((intS st).left.length / least:Nat):Int):=(Int.natCast_ediv _ _).symm
    omega
   have hn12:n≤1000000000000:=Nat.le_trans hnl (Nat.le_trans (Nat.div_le_self _ _) hl1)
   have hyes:listV one least (st,odd)=manyS one n (intS st,odd):=by
    unfold listV
    rw [if_pos ⟨by simp only; omega,by simp only; rw [hn]; omega⟩]
    simp only [hn,Int.toNat_natCast]
   rw [hyes,hn]
   repeat (first|refine zF ?_|refine zR ?_|refine zB ?_|refine zE ?_|refine zK G G G ?_|refine zP ?_|refine zI G ?_)
   refine hold_count n (fun k g L=>∃ (vo:Value) (E h2 h3 R:Hp),g=[(2,.func (.func k0) #[] caps.toArray),(8,vo),(26,.int .i64 n),(27,.int .i64 k)]∧Plain E∧OwL w0 (D+E) (manyS one k (intS st,odd)).1 vo h3∧RdrAt w0 D b (manyS one k (intS st,odd)).2.1 h2 ∧
     L=D+C (manyS one k (intS st,odd)).2.2+E+h2+h3+fr+R) _
    ⟨.slice none 0 0,0,h1,0,0,rfl,Plain.zero,OwL.nil _ _,hr1,by simp only [manyS,yB]; ac_rfl⟩ (by repeat (first|exact zT _|refine zO G ?_)) ?_
   rintro k g L hk ⟨vo,E,h2,h3,R,rfl,hpl,ho,hr2,rfl⟩
   have hml:=manyS_len hlen k (intS st,odd)
   have hmn:=manyS_length one k (intS st,odd)
   repeat (first|refine zF ?_|refine zB ?_)
   refine yG G G (pv_lss G G) (fun n3=>?_) (fun n3=>?_)
   ·repeat (first|refine zF ?_|refine zR ?_|refine zB ?_|refine zE ?_|refine zK G G G ?_|refine zP ?_|refine zJ G ?_)
    refine zY G G (zQ G G (by simp<;>rfl)) (hone (manyS one k (intS st,odd)).2 h2 (by simp only at hml; omega) hr2) ?_
    rintro _ _ ⟨e,E2,h4,rfl,hpl2,he,hr4,rfl⟩
    obtain ⟨a9,c9,rfl,_⟩:=id he
    repeat (refine L_bs (vs:=[_]) (cells:=[_,_,_,_]) G G G G G G (fun _=>?_))
    refine L_eff G G (ev_appendL (X:=D+(E+E2)) (ns:=[(one (manyS one k (intS st,odd)).2).1]) (h:=h3) G G (ho.mono (R:=E2) (by ac_rfl)) (rd_one G) (All2.one (Rep.mono (R:=E) (by ac_rfl) he)) G G G G G (by rw [hmn]; simp only [List.length_singleton]; omega)) ?_
    rintro vo' _ ⟨h5,ho5,rfl⟩
    have e2:(one (manyS one k (intS st,odd)).2).2=(manyS one (k+1) (intS st,odd)).2:=rfl
    rw [e2]
    repeat (first|refine zB ?_|refine zE ?_|refine zK G G G ?_|refine L_add G G (by omega) (by omega) G G ?_)
    exact ⟨by omega,_,(by repeat (first|exact zT _|refine zO G ?_)),vo',E+E2,h4,h5,_,rfl,hpl.add hpl2,ho5,hr4,yK.out⟩
   ·obtain rfl:k=n:=by omega
    repeat (first|refine zF ?_|refine yD ?_|refine zB ?_|refine zE ?_|refine zK G G G ?_|refine zM ?_|refine zI G ?_)
    exact ⟨[_],D+C (manyS one k (intS st,odd)).2.2+E+h2+h3,_,⟨rfl,trivial⟩,⟨E,h2,h3,hpl,ho,hr2,rfl⟩,yK.out⟩
theorem listSes_spec (w0:World) (D:Hp) (b:Nat) (C:Bool→Hp) (k0:Nat) [hf:Fun Tryz.prog k0] (caps:List Value) (one:RS × Bool→Ses × (RS × Bool)) (least:Nat) (hleast:1≤least∧least≤1000) (s:RS × Bool) (h:Hp) (hr:RdrAt w0 D b s.1 h) (hl:s.1.left.length≤1000000000000)
  (hlen:∀ s,(one s).2.1.left.length≤s.1.left.length)
  (hone:∀ (s:RS × Bool) (h:Hp),s.1.left.length≤1000000000000→RdrAt w0 D b s.1 h→Spec Tryz.prog w0 k0 caps (D+C s.2+h) (fun r h'=>∃ e E h2,r=.agg e.toArray∧Plain E∧Rep.rd w0 (D+E) (one s).1 e∧RdrAt w0 D b (one s).2.1 h2∧D+C (one s).2.2+E+h2=h')) :
  Spec Tryz.prog w0 60 [.pointer (some ⟨b,0,none⟩),.int .i64 (least:Int),.func (.func k0) #[] caps.toArray] (D+C s.2+h)
   (fun r h'=>∃ E h2 h3,Plain E∧OwL w0 (D+E) (listV one least s).1 r h3∧RdrAt w0 D b (listV one least s).2.1 h2∧D+C (listV one least s).2.2+E+h2+h3=h'):=by
 obtain ⟨st,odd⟩:=s
 change st.left.length≤_ at hl
 change RdrAt w0 D b st h at hr
 change Spec _ _ _ _ (D+C odd+h) _
 have hl1:(intS st).left.length≤1000000000000:=by have:=takeS_len st 8; unfold intS; omega
 refine zN Tryz.func60 G Tryz.ntmps60 Tryz.results60 G fun fr=>?_
 repeat (first|refine zF ?_|refine zB ?_|refine zE ?_|refine zK G G G ?_)
 refine zY G G (zQ G G G) (getInt_spec w0 D b st h hr hl) ?_
 rintro _ _ ⟨h1,rfl,hr1,rfl⟩
 repeat (first|refine zF ?_|refine zB ?_|refine zE ?_|refine zK G G G ?_)
 refine yG G G (pv_lss G G) (fun n1=>?_) (fun n1=>?_)
 ·have hno:listV one least (st,odd)=([],(⟨[],true⟩,odd)):=by unfold listV; rw [if_neg (fun h=>by have:=h.1; simp only at this; omega)]
  rw [hno]
  repeat (first|refine zF ?_|refine zR ?_|refine zE ?_|refine zK G G G ?_|refine L_skip G G ?_|refine zJ G ?_)
  refine hold_loop (fun m g L=>∃ (s:RS) (h2 R:Hp),s.wf∧m=s.left.length+(if s.bad=true then 0 else 1)∧s.left.length≤1000000000000∧g=[(0,.pointer (some ⟨b,0,none⟩))]∧RdrAt w0 D b s h2∧L=D+C odd+h2+fr+R) _ _
   ⟨intS st,h1,0,takeS_wf _ _,rfl,hl1,rfl,hr1,by simp only [yB]; ac_rfl⟩ (by repeat (first|exact zT _|refine zO G ?_)) ?_
  rintro m g L ⟨s,h2,R,hwf,rfl,hsl,rfl,hrs,rfl⟩
  repeat (first|refine zF ?_|refine zB ?_|refine zK G G G ?_)
  refine zY G G (zQ G G G) (bad02_spec w0 D b s h2 hrs) ?_
  rintro _ _ ⟨rfl,rfl⟩
  cases hb:s.bad
  ·repeat (first|refine zR ?_|refine zB ?_|refine zE ?_|refine zK G G G ?_|refine zP ?_|refine zJ G ?_)
   refine zY G G (zQ G G G) (getInt_spec w0 D b s h2 hrs hsl) ?_
   rintro _ _ ⟨h3,rfl,hr3,rfl⟩
   repeat (refine zE ?_)
   refine ⟨_,_,?_,(by repeat (first|exact zT _|refine zO G ?_)),intS s,h3,_,takeS_wf _ _,rfl,by have:=takeS_len s 8; unfold intS; omega,rfl,hr3,yK.out⟩
   unfold intS takeS
   split
   ·rename_i ht
    have:(8:Int)≤s.left.length:=by simp [takeOk,hb] at ht; exact_mod_cast ht
    simp; omega
   ·simp
  ·have hs:s=⟨[],true⟩:=by
    obtain ⟨l,bd⟩:=s
    simp only at hb
    subst hb
    obtain rfl:l=[]:=hwf rfl
    rfl
   subst hs
   repeat (first|refine zF ?_|refine yD ?_|refine zB ?_|refine zE ?_|refine zK G G G ?_|refine zM ?_|refine zI G ?_)
   exact ⟨[_],D+C odd+0+h2+0,_,⟨rfl,trivial⟩,⟨0,h2,0,Plain.zero,OwL.nil _ _,hrs,rfl⟩,by simp only [yB]; exact yK.out⟩
 ·repeat (refine zK G G G ?_)
  refine zY G G (zQ G G G) (left02_spec w0 D b (intS st) h1 hr1) ?_
  rintro _ _ ⟨rfl,rfl⟩
  repeat (refine zK G G G ?_)
  refine yH G G (pv_quo_nn G G (by omega) (by omega) (by omega)) ?_
  refine yG G G (pv_gtr G G) (fun n2=>?_) (fun n2=>?_)
  ·have hno:listV one least (st,odd)=([],(⟨[],true⟩,odd)):=by
    unfold listV
    rw [if_neg (fun h=>by have:=h.2; simp only at this; rw [Int.natCast_ediv] at this; omega)]
   rw [hno]
   repeat (first|refine zF ?_|refine zR ?_|refine zE ?_|refine zK G G G ?_|refine zJ G ?_)
   refine hold_loop (fun m g L=>∃ (s:RS) (h2 R:Hp),s.wf∧m=s.left.length+(if s.bad=true then 0 else 1)∧s.left.length≤1000000000000∧g=[(0,.pointer (some ⟨b,0,none⟩))]∧RdrAt w0 D b s h2∧L=D+C odd+h2+fr+R) _ _
    ⟨intS st,h1,0,takeS_wf _ _,rfl,hl1,rfl,hr1,by simp only [yB]; ac_rfl⟩ (by repeat (first|exact zT _|refine zO G ?_)) ?_
   rintro m g L ⟨s,h2,R,hwf,rfl,hsl,rfl,hrs,rfl⟩
   repeat (first|refine zF ?_|refine zB ?_|refine zK G G G ?_)
   refine zY G G (zQ G G G) (bad02_spec w0 D b s h2 hrs) ?_
   rintro _ _ ⟨rfl,rfl⟩
   cases hb:s.bad
   ·repeat (first|refine zR ?_|refine zB ?_|refine zE ?_|refine zK G G G ?_|refine zP ?_|refine zJ G ?_)
    refine zY G G (zQ G G G) (getInt_spec w0 D b s h2 hrs hsl) ?_
    rintro _ _ ⟨h3,rfl,hr3,rfl⟩
    repeat (refine zE ?_)
    refine ⟨_,_,?_,(by repeat (first|exact zT _|refine zO G ?_)),intS s,h3,_,takeS_wf _ _,rfl,by have:=takeS_len s 8; unfold intS; omega,rfl,hr3,yK.out⟩
    unfold intS takeS
    split
    ·rename_i ht
     have:(8:Int)≤s.left.length:=by simp [takeOk,hb] at ht; exact_mod_cast ht
     simp; omega
    ·simp
   ·have hs:s=⟨[],true⟩:=by
     obtain ⟨l,bd⟩:=s
     simp only at hb
     subst hb
     obtain rfl:l=[]:=hwf rfl
     rfl
    subst hs
    repeat (first|refine zF ?_|refine yD ?_|refine zB ?_|refine zE ?_|refine zK G G G ?_|refine zM ?_|refine zI G ?_)
    exact ⟨[_],D+C odd+0+h2+0,_,⟨rfl,trivial⟩,⟨0,h2,0,Plain.zero,OwL.nil _ _,hrs,rfl⟩,by simp only [yB]; exact yK.out⟩
  ·obtain ⟨n,hn⟩:=Int.eq_ofNat_of_zero_le (show 0≤intV st by omega)
   have hnl:n≤(intS st).left.length / least:=by
    rw [hn] at n2
    have:((intS st).left.length:Int) / (least:Int)=(((intS st).left.length / least:Nat):Int):=(Int.natCast_ediv _ _).symm
    omega
   have hn12:n≤1000000000000:=Nat.le_trans hnl (Nat.le_trans (Nat.div_le_self _ _) hl1)
   have hyes:listV one least (st,odd)=manyS one n (intS st,odd):=by
    unfold listV
    rw [if_pos ⟨by simp only; omega,by simp only; rw [hn]; omega⟩]
    simp only [hn,Int.toNat_natCast]
   rw [hyes,hn]
   repeat (first|refine zF ?_|refine zR ?_|refine zB ?_|refine zE ?_|refine zK G G G ?_|refine zP ?_|refine zI G ?_)
   refine hold_count n (fun k g L=>∃ (vo:Value) (E h2 h3 R:Hp),g=[(2,.func (.func k0) #[] caps.toArray),(8,vo),(26,.int .i64 n),(27,.int .i64 k)]∧Plain E∧OwL w0 (D+E) (manyS one k (intS st,odd)).1 vo h3∧RdrAt w0 D b (manyS one k (intS st,odd)).2.1 h2 ∧
     L=D+C (manyS one k (intS st,odd)).2.2+E+h2+h3+fr+R) _
    ⟨.slice none 0 0,0,h1,0,0,rfl,Plain.zero,OwL.nil _ _,hr1,by simp only [manyS,yB]; ac_rfl⟩ (by repeat (first|exact zT _|refine zO G ?_)) ?_
   rintro k g L hk ⟨vo,E,h2,h3,R,rfl,hpl,ho,hr2,rfl⟩
   have hml:=manyS_len hlen k (intS st,odd)
   have hmn:=manyS_length one k (intS st,odd)
   repeat (first|refine zF ?_|refine zB ?_)
   refine yG G G (pv_lss G G) (fun n3=>?_) (fun n3=>?_)
   ·repeat (first|refine zF ?_|refine zR ?_|refine zB ?_|refine zE ?_|refine zK G G G ?_|refine zP ?_|refine zJ G ?_)
    refine zY G G (zQ G G (by simp<;>rfl)) (hone (manyS one k (intS st,odd)).2 h2 (by simp only at hml; omega) hr2) ?_
    rintro _ _ ⟨e,E2,h4,rfl,hpl2,he,hr4,rfl⟩
    obtain ⟨a9,c9,rfl,_⟩:=id he
    repeat (refine L_bs (vs:=[_]) (cells:=[_,_,_,_]) G G G G G G (fun _=>?_))
    refine L_eff G G (ev_appendL (X:=D+(E+E2)) (ns:=[(one (manyS one k (intS st,odd)).2).1]) (h:=h3) G G (ho.mono (R:=E2) (by ac_rfl)) (rd_one G) (All2.one (Rep.mono (R:=E) (by ac_rfl) he)) G G G G G (by rw [hmn]; simp only [List.length_singleton]; omega)) ?_
    rintro vo' _ ⟨h5,ho5,rfl⟩
    have e2:(one (manyS one k (intS st,odd)).2).2=(manyS one (k+1) (intS st,odd)).2:=rfl
    rw [e2]
    repeat (first|refine zB ?_|refine zE ?_|refine zK G G G ?_|refine L_add G G (by omega) (by omega) G G ?_)
    exact ⟨by omega,_,(by repeat (first|exact zT _|refine zO G ?_)),vo',E+E2,h4,h5,_,rfl,hpl.add hpl2,ho5,hr4,yK.out⟩
   ·obtain rfl:k=n:=by omega
    repeat (first|refine zF ?_|refine yD ?_|refine zB ?_|refine zE ?_|refine zK G G G ?_|refine zM ?_|refine zI G ?_)
    exact ⟨[_],D+C (manyS one k (intS st,odd)).2.2+E+h2+h3,_,⟨rfl,trivial⟩,⟨E,h2,h3,hpl,ho,hr2,rfl⟩,yK.out⟩
theorem listPrp_spec (w0:World) (D:Hp) (b:Nat) (C:Bool→Hp) (k0:Nat) [hf:Fun Tryz.prog k0] (caps:List Value) (one:RS × Bool→Prp × (RS × Bool)) (least:Nat) (hleast:1≤least∧least≤1000) (s:RS × Bool) (h:Hp) (hr:RdrAt w0 D b s.1 h) (hl:s.1.left.length≤1000000000000)
  (hlen:∀ s,(one s).2.1.left.length≤s.1.left.length)
  (hone:∀ (s:RS × Bool) (h:Hp),s.1.left.length≤1000000000000→RdrAt w0 D b s.1 h→Spec Tryz.prog w0 k0 caps (D+C s.2+h) (fun r h'=>∃ e E h2,r=.agg e.toArray∧Plain E∧Rep.rd w0 (D+E) (one s).1 e∧RdrAt w0 D b (one s).2.1 h2∧D+C (one s).2.2+E+h2=h')) :
  Spec Tryz.prog w0 52 [.pointer (some ⟨b,0,none⟩),.int .i64 (least:Int),.func (.func k0) #[] caps.toArray] (D+C s.2+h)
   (fun r h'=>∃ E h2 h3,Plain E∧OwL w0 (D+E) (listV one least s).1 r h3∧RdrAt w0 D b (listV one least s).2.1 h2∧D+C (listV one least s).2.2+E+h2+h3=h'):=by
 obtain ⟨st,odd⟩:=s
 change st.left.length≤_ at hl
 change RdrAt w0 D b st h at hr
 change Spec _ _ _ _ (D+C odd+h) _
 have hl1:(intS st).left.length≤1000000000000:=by have:=takeS_len st 8; unfold intS; omega
 refine zN Tryz.func52 G Tryz.ntmps52 Tryz.results52 G fun fr=>?_
 repeat (first|refine zF ?_|refine zB ?_|refine zE ?_|refine zK G G G ?_)
 refine zY G G (zQ G G G) (getInt_spec w0 D b st h hr hl) ?_
 rintro _ _ ⟨h1,rfl,hr1,rfl⟩
 repeat (first|refine zF ?_|refine zB ?_|refine zE ?_|refine zK G G G ?_)
 refine yG G G (pv_lss G G) (fun n1=>?_) (fun n1=>?_)
 ·have hno:listV one least (st,odd)=([],(⟨[],true⟩,odd)):=by unfold listV; rw [if_neg (fun h=>by have:=h.1; simp only at this; omega)]
  rw [hno]
  repeat (first|refine zF ?_|refine zR ?_|refine zE ?_|refine zK G G G ?_|refine L_skip G G ?_|refine zJ G ?_)
  refine hold_loop (fun m g L=>∃ (s:RS) (h2 R:Hp),s.wf∧m=s.left.length+(if s.bad=true then 0 else 1)∧s.left.length≤1000000000000∧g=[(0,.pointer (some ⟨b,0,none⟩))]∧RdrAt w0 D b s h2∧L=D+C odd+h2+fr+R) _ _
   ⟨intS st,h1,0,takeS_wf _ _,rfl,hl1,rfl,hr1,by simp only [yB]; ac_rfl⟩ (by repeat (first|exact zT _|refine zO G ?_)) ?_
  rintro m g L ⟨s,h2,R,hwf,rfl,hsl,rfl,hrs,rfl⟩
  repeat (first|refine zF ?_|refine zB ?_|refine zK G G G ?_)
  refine zY G G (zQ G G G) (bad02_spec w0 D b s h2 hrs) ?_
  rintro _ _ ⟨rfl,rfl⟩
  cases hb:s.bad
  ·repeat (first|refine zR ?_|refine zB ?_|refine zE ?_|refine zK G G G ?_|refine zP ?_|refine zJ G ?_)
   refine zY G G (zQ G G G) (getInt_spec w0 D b s h2 hrs hsl) ?_
   rintro _ _ ⟨h3,rfl,hr3,rfl⟩
   repeat (refine zE ?_)
   refine ⟨_,_,?_,(by repeat (first|exact zT _|refine zO G ?_)),intS s,h3,_,takeS_wf _ _,rfl,by have:=takeS_len s 8; unfold intS; omega,rfl,hr3,yK.out⟩
   unfold intS takeS
   split
   ·rename_i ht
    have:(8:Int)≤s.left.length:=by simp [takeOk,hb] at ht; exact_mod_cast ht
    simp; omega
   ·simp
  ·have hs:s=⟨[],true⟩:=by
    obtain ⟨l,bd⟩:=s
    simp only at hb
    subst hb
    obtain rfl:l=[]:=hwf rfl
    rfl
   subst hs
   repeat (first|refine zF ?_|refine yD ?_|refine zB ?_|refine zE ?_|refine zK G G G ?_|refine zM ?_|refine zI G ?_)
   exact ⟨[_],D+C odd+0+h2+0,_,⟨rfl,trivial⟩,⟨0,h2,0,Plain.zero,OwL.nil _ _,hrs,rfl⟩,by simp only [yB]; exact yK.out⟩
 ·repeat (refine zK G G G ?_)
  refine zY G G (zQ G G G) (left02_spec w0 D b (intS st) h1 hr1) ?_
  rintro _ _ ⟨rfl,rfl⟩
  repeat (refine zK G G G ?_)
  refine yH G G (pv_quo_nn G G (by omega) (by omega) (by omega)) ?_
  refine yG G G (pv_gtr G G) (fun n2=>?_) (fun n2=>?_)
  ·have hno:listV one least (st,odd)=([],(⟨[],true⟩,odd)):=by
    unfold listV
    rw [if_neg (fun h=>by have:=h.2; simp only at this; rw [Int.natCast_ediv] at this; omega)]
   rw [hno]
   repeat (first|refine zF ?_|refine zR ?_|refine zE ?_|refine zK G G G ?_|refine zJ G ?_)
   refine hold_loop (fun m g L=>∃ (s:RS) (h2 R:Hp),s.wf∧m=s.left.length+(if s.bad=true then 0 else 1)∧s.left.length≤1000000000000∧g=[(0,.pointer (some ⟨b,0,none⟩))]∧RdrAt w0 D b s h2∧L=D+C odd+h2+fr+R) _ _
    ⟨intS st,h1,0,takeS_wf _ _,rfl,hl1,rfl,hr1,by simp only [yB]; ac_rfl⟩ (by repeat (first|exact zT _|refine zO G ?_)) ?_
   rintro m g L ⟨s,h2,R,hwf,rfl,hsl,rfl,hrs,rfl⟩
   repeat (first|refine zF ?_|refine zB ?_|refine zK G G G ?_)
   refine zY G G (zQ G G G) (bad02_spec w0 D b s h2 hrs) ?_
   rintro _ _ ⟨rfl,rfl⟩
   cases hb:s.bad
   ·repeat (first|refine zR ?_|refine zB ?_|refine zE ?_|refine zK G G G ?_|refine zP ?_|refine zJ G ?_)
    refine zY G G (zQ G G G) (getInt_spec w0 D b s h2 hrs hsl) ?_
    rintro _ _ ⟨h3,rfl,hr3,rfl⟩
    repeat (refine zE ?_)
    refine ⟨_,_,?_,(by repeat (first|exact zT _|refine zO G ?_)),intS s,h3,_,takeS_wf _ _,rfl,by have:=takeS_len s 8; unfold intS; omega,rfl,hr3,yK.out⟩
    unfold intS takeS
    split
    ·rename_i ht
     have:(8:Int)≤s.left.length:=by simp [takeOk,hb] at ht; exact_mod_cast ht
     simp; omega
    ·simp
   ·have hs:s=⟨[],true⟩:=by
     obtain ⟨l,bd⟩:=s
     simp only at hb
     subst hb
     obtain rfl:l=[]:=hwf rfl
     rfl
    subst hs
    repeat (first|refine zF ?_|refine yD ?_|refine zB ?_|refine zE ?_|refine zK G G G ?_|refine zM ?_|refine zI G ?_)
    exact ⟨[_],D+C odd+0+h2+0,_,⟨rfl,trivial⟩,⟨0,h2,0,Plain.zero,OwL.nil _ _,hrs,rfl⟩,by simp only [yB]; exact yK.out⟩
  ·obtain ⟨n,hn⟩:=Int.eq_ofNat_of_zero_le (show 0≤intV st by omega)
   have hnl:n≤(intS st).left.length / least:=by
    rw [hn] at n2
    have:((intS st).left.length:Int) / (least:Int)=(((intS st).left.length / least:Nat):Int):=(Int.natCast_ediv _ _).symm
    omega
   have hn12:n≤1000000000000:=Nat.le_trans hnl (Nat.le_trans (Nat.div_le_self _ _) hl1)
   have hyes:listV one least (st,odd)=manyS one n (intS st,odd):=by
    unfold listV
    rw [if_pos ⟨by simp only; omega,by simp only; rw [hn]; omega⟩]
    simp only [hn,Int.toNat_natCast]
   rw [hyes,hn]
   repeat (first|refine zF ?_|refine zR ?_|refine zB ?_|refine zE ?_|refine zK G G G ?_|refine zP ?_|refine zI G ?_)
   refine hold_count n (fun k g L=>∃ (vo:Value) (E h2 h3 R:Hp),g=[(2,.func (.func k0) #[] caps.toArray),(8,vo),(26,.int .i64 n),(27,.int .i64 k)]∧Plain E∧OwL w0 (D+E) (manyS one k (intS st,odd)).1 vo h3∧RdrAt w0 D b (manyS one k (intS st,odd)).2.1 h2 ∧
     L=D+C (manyS one k (intS st,odd)).2.2+E+h2+h3+fr+R) _
    ⟨.slice none 0 0,0,h1,0,0,rfl,Plain.zero,OwL.nil _ _,hr1,by simp only [manyS,yB]; ac_rfl⟩ (by repeat (first|exact zT _|refine zO G ?_)) ?_
   rintro k g L hk ⟨vo,E,h2,h3,R,rfl,hpl,ho,hr2,rfl⟩
   have hml:=manyS_len hlen k (intS st,odd)
   have hmn:=manyS_length one k (intS st,odd)
   repeat (first|refine zF ?_|refine zB ?_)
   refine yG G G (pv_lss G G) (fun n3=>?_) (fun n3=>?_)
   ·repeat (first|refine zF ?_|refine zR ?_|refine zB ?_|refine zE ?_|refine zK G G G ?_|refine zP ?_|refine zJ G ?_)
    refine zY G G (zQ G G (by simp<;>rfl)) (hone (manyS one k (intS st,odd)).2 h2 (by simp only at hml; omega) hr2) ?_
    rintro _ _ ⟨e,E2,h4,rfl,hpl2,he,hr4,rfl⟩
    obtain ⟨a9,c9,a10,c10,rfl,_⟩:=id he
    repeat (refine L_bs (vs:=[_]) (cells:=[_,_,_,_,_,_,_]) G G G G G G (fun _=>?_))
    refine L_eff G G (ev_appendL (X:=D+(E+E2)) (ns:=[(one (manyS one k (intS st,odd)).2).1]) (h:=h3) G G (ho.mono (R:=E2) (by ac_rfl)) (rd_one G) (All2.one (Rep.mono (R:=E) (by ac_rfl) he)) G G G G G (by rw [hmn]; simp only [List.length_singleton]; omega)) ?_
    rintro vo' _ ⟨h5,ho5,rfl⟩
    have e2:(one (manyS one k (intS st,odd)).2).2=(manyS one (k+1) (intS st,odd)).2:=rfl
    rw [e2]
    repeat (first|refine zB ?_|refine zE ?_|refine zK G G G ?_|refine L_add G G (by omega) (by omega) G G ?_)
    exact ⟨by omega,_,(by repeat (first|exact zT _|refine zO G ?_)),vo',E+E2,h4,h5,_,rfl,hpl.add hpl2,ho5,hr4,yK.out⟩
   ·obtain rfl:k=n:=by omega
    repeat (first|refine zF ?_|refine yD ?_|refine zB ?_|refine zE ?_|refine zK G G G ?_|refine zM ?_|refine zI G ?_)
    exact ⟨[_],D+C (manyS one k (intS st,odd)).2.2+E+h2+h3,_,⟨rfl,trivial⟩,⟨E,h2,h3,hpl,ho,hr2,rfl⟩,yK.out⟩
theorem listLk_spec (w0:World) (D:Hp) (b:Nat) (C:Bool→Hp) (k0:Nat) [hf:Fun Tryz.prog k0] (caps:List Value) (one:RS × Bool→Lk × (RS × Bool)) (least:Nat) (hleast:1≤least∧least≤1000) (s:RS × Bool) (h:Hp) (hr:RdrAt w0 D b s.1 h) (hl:s.1.left.length≤1000000000000)
  (hlen:∀ s,(one s).2.1.left.length≤s.1.left.length)
  (hone:∀ (s:RS × Bool) (h:Hp),s.1.left.length≤1000000000000→RdrAt w0 D b s.1 h→Spec Tryz.prog w0 k0 caps (D+C s.2+h) (fun r h'=>∃ e E h2,r=.agg e.toArray∧Plain E∧Rep.rd w0 (D+E) (one s).1 e∧RdrAt w0 D b (one s).2.1 h2∧D+C (one s).2.2+E+h2=h')) :
  Spec Tryz.prog w0 50 [.pointer (some ⟨b,0,none⟩),.int .i64 (least:Int),.func (.func k0) #[] caps.toArray] (D+C s.2+h)
   (fun r h'=>∃ E h2 h3,Plain E∧OwL w0 (D+E) (listV one least s).1 r h3∧RdrAt w0 D b (listV one least s).2.1 h2∧D+C (listV one least s).2.2+E+h2+h3=h'):=by
 obtain ⟨st,odd⟩:=s
 change st.left.length≤_ at hl
 change RdrAt w0 D b st h at hr
 change Spec _ _ _ _ (D+C odd+h) _
 have hl1:(intS st).left.length≤1000000000000:=by have:=takeS_len st 8; unfold intS; omega
 refine zN Tryz.func50 G Tryz.ntmps50 Tryz.results50 G fun fr=>?_
 repeat (first|refine zF ?_|refine zB ?_|refine zE ?_|refine zK G G G ?_)
 refine zY G G (zQ G G G) (getInt_spec w0 D b st h hr hl) ?_
 rintro _ _ ⟨h1,rfl,hr1,rfl⟩
 repeat (first|refine zF ?_|refine zB ?_|refine zE ?_|refine zK G G G ?_)
 refine yG G G (pv_lss G G) (fun n1=>?_) (fun n1=>?_)
 ·have hno:listV one least (st,odd)=([],(⟨[],true⟩,odd)):=by unfold listV; rw [if_neg (fun h=>by have:=h.1; simp only at this; omega)]
  rw [hno]
  repeat (first|refine zF ?_|refine zR ?_|refine zE ?_|refine zK G G G ?_|refine L_skip G G ?_|refine zJ G ?_)
  refine hold_loop (fun m g L=>∃ (s:RS) (h2 R:Hp),s.wf∧m=s.left.length+(if s.bad=true then 0 else 1)∧s.left.length≤1000000000000∧g=[(0,.pointer (some ⟨b,0,none⟩))]∧RdrAt w0 D b s h2∧L=D+C odd+h2+fr+R) _ _
   ⟨intS st,h1,0,takeS_wf _ _,rfl,hl1,rfl,hr1,by simp only [yB]; ac_rfl⟩ (by repeat (first|exact zT _|refine zO G ?_)) ?_
  rintro m g L ⟨s,h2,R,hwf,rfl,hsl,rfl,hrs,rfl⟩
  repeat (first|refine zF ?_|refine zB ?_|refine zK G G G ?_)
  refine zY G G (zQ G G G) (bad02_spec w0 D b s h2 hrs) ?_
  rintro _ _ ⟨rfl,rfl⟩
  cases hb:s.bad
  ·repeat (first|refine zR ?_|refine zB ?_|refine zE ?_|refine zK G G G ?_|refine zP ?_|refine zJ G ?_)
   refine zY G G (zQ G G G) (getInt_spec w0 D b s h2 hrs hsl) ?_
   rintro _ _ ⟨h3,rfl,hr3,rfl⟩
   repeat (refine zE ?_)
   refine ⟨_,_,?_,(by repeat (first|exact zT _|refine zO G ?_)),intS s,h3,_,takeS_wf _ _,rfl,by have:=takeS_len s 8; unfold intS; omega,rfl,hr3,yK.out⟩
   unfold intS takeS
   split
   ·rename_i ht
    have:(8:Int)≤s.left.length:=by simp [takeOk,hb] at ht; exact_mod_cast ht
    simp; omega
   ·simp
  ·have hs:s=⟨[],true⟩:=by
    obtain ⟨l,bd⟩:=s
    simp only at hb
    subst hb
    obtain rfl:l=[]:=hwf rfl
    rfl
   subst hs
   repeat (first|refine zF ?_|refine yD ?_|refine zB ?_|refine zE ?_|refine zK G G G ?_|refine zM ?_|refine zI G ?_)
   exact ⟨[_],D+C odd+0+h2+0,_,⟨rfl,trivial⟩,⟨0,h2,0,Plain.zero,OwL.nil _ _,hrs,rfl⟩,by simp only [yB]; exact yK.out⟩
 ·repeat (refine zK G G G ?_)
  refine zY G G (zQ G G G) (left02_spec w0 D b (intS st) h1 hr1) ?_
  rintro _ _ ⟨rfl,rfl⟩
  repeat (refine zK G G G ?_)
  refine yH G G (pv_quo_nn G G (by omega) (by omega) (by omega)) ?_
  refine yG G G (pv_gtr G G) (fun n2=>?_) (fun n2=>?_)
  ·have hno:listV one least (st,odd)=([],(⟨[],true⟩,odd)):=by
    unfold listV
    rw [if_neg (fun h=>by have:=h.2; simp only at this; rw [Int.natCast_ediv] at this; omega)]
   rw [hno]
   repeat (first|refine zF ?_|refine zR ?_|refine zE ?_|refine zK G G G ?_|refine zJ G ?_)
   refine hold_loop (fun m g L=>∃ (s:RS) (h2 R:Hp),s.wf∧m=s.left.length+(if s.bad=true then 0 else 1)∧s.left.length≤1000000000000∧g=[(0,.pointer (some ⟨b,0,none⟩))]∧RdrAt w0 D b s h2∧L=D+C odd+h2+fr+R) _ _
    ⟨intS st,h1,0,takeS_wf _ _,rfl,hl1,rfl,hr1,by simp only [yB]; ac_rfl⟩ (by repeat (first|exact zT _|refine zO G ?_)) ?_
   rintro m g L ⟨s,h2,R,hwf,rfl,hsl,rfl,hrs,rfl⟩
   repeat (first|refine zF ?_|refine zB ?_|refine zK G G G ?_)
   refine zY G G (zQ G G G) (bad02_spec w0 D b s h2 hrs) ?_
   rintro _ _ ⟨rfl,rfl⟩
   cases hb:s.bad
   ·repeat (first|refine zR ?_|refine zB ?_|refine zE ?_|refine zK G G G ?_|refine zP ?_|refine zJ G ?_)
    refine zY G G (zQ G G G) (getInt_spec w0 D b s h2 hrs hsl) ?_
    rintro _ _ ⟨h3,rfl,hr3,rfl⟩
    repeat (refine zE ?_)
    refine ⟨_,_,?_,(by repeat (first|exact zT _|refine zO G ?_)),intS s,h3,_,takeS_wf _ _,rfl,by have:=takeS_len s 8; unfold intS; omega,rfl,hr3,yK.out⟩
    unfold intS takeS
    split
    ·rename_i ht
     have:(8:Int)≤s.left.length:=by simp [takeOk,hb] at ht; exact_mod_cast ht
     simp; omega
    ·simp
   ·have hs:s=⟨[],true⟩:=by
     obtain ⟨l,bd⟩:=s
     simp only at hb
     subst hb
     obtain rfl:l=[]:=hwf rfl
     rfl
    subst hs
    repeat (first|refine zF ?_|refine yD ?_|refine zB ?_|refine zE ?_|refine zK G G G ?_|refine zM ?_|refine zI G ?_)
    exact ⟨[_],D+C odd+0+h2+0,_,⟨rfl,trivial⟩,⟨0,h2,0,Plain.zero,OwL.nil _ _,hrs,rfl⟩,by simp only [yB]; exact yK.out⟩
  ·obtain ⟨n,hn⟩:=Int.eq_ofNat_of_zero_le (show 0≤intV st by omega)
   have hnl:n≤(intS st).left.length / least:=by
    rw [hn] at n2
    have:((intS st).left.length:Int) / (least:Int)=(((intS st).left.length / least:Nat):Int):=(Int.natCast_ediv _ _).symm
    omega
   have hn12:n≤1000000000000:=Nat.le_trans hnl (Nat.le_trans (Nat.div_le_self _ _) hl1)
   have hyes:listV one least (st,odd)=manyS one n (intS st,odd):=by
    unfold listV
    rw [if_pos ⟨by simp only; omega,by simp only; rw [hn]; omega⟩]
    simp only [hn,Int.toNat_natCast]
   rw [hyes,hn]
   repeat (first|refine zF ?_|refine zR ?_|refine zB ?_|refine zE ?_|refine zK G G G ?_|refine zP ?_|refine zI G ?_)
   refine hold_count n (fun k g L=>∃ (vo:Value) (E h2 h3 R:Hp),g=[(2,.func (.func k0) #[] caps.toArray),(8,vo),(26,.int .i64 n),(27,.int .i64 k)]∧Plain E∧OwL w0 (D+E) (manyS one k (intS st,odd)).1 vo h3∧RdrAt w0 D b (manyS one k (intS st,odd)).2.1 h2 ∧
     L=D+C (manyS one k (intS st,odd)).2.2+E+h2+h3+fr+R) _
    ⟨.slice none 0 0,0,h1,0,0,rfl,Plain.zero,OwL.nil _ _,hr1,by simp only [manyS,yB]; ac_rfl⟩ (by repeat (first|exact zT _|refine zO G ?_)) ?_
   rintro k g L hk ⟨vo,E,h2,h3,R,rfl,hpl,ho,hr2,rfl⟩
   have hml:=manyS_len hlen k (intS st,odd)
   have hmn:=manyS_length one k (intS st,odd)
   repeat (first|refine zF ?_|refine zB ?_)
   refine yG G G (pv_lss G G) (fun n3=>?_) (fun n3=>?_)
   ·repeat (first|refine zF ?_|refine zR ?_|refine zB ?_|refine zE ?_|refine zK G G G ?_|refine zP ?_|refine zJ G ?_)
    refine zY G G (zQ G G (by simp<;>rfl)) (hone (manyS one k (intS st,odd)).2 h2 (by simp only at hml; omega) hr2) ?_
    rintro _ _ ⟨e,E2,h4,rfl,hpl2,he,hr4,rfl⟩
    obtain rfl:e=[.int .i64 (one (manyS one k (intS st,odd)).2).1.block,.int .i64 (one (manyS one k (intS st,odd)).2).1.txn,.int .i64 (one (manyS one k (intS st,odd)).2).1.age,.bool (one (manyS one k (intS st,odd)).2).1.write]:=id he
    repeat (refine L_bs (vs:=[_]) (cells:=[_,_,_,_]) G G G G G G (fun _=>?_))
    refine L_eff G G (ev_appendL (X:=D+(E+E2)) (ns:=[(one (manyS one k (intS st,odd)).2).1]) (h:=h3) G G (ho.mono (R:=E2) (by ac_rfl)) (rd_one G) (All2.one (Rep.mono (R:=E) (by ac_rfl) he)) G G G G G (by rw [hmn]; simp only [List.length_singleton]; omega)) ?_
    rintro vo' _ ⟨h5,ho5,rfl⟩
    have e2:(one (manyS one k (intS st,odd)).2).2=(manyS one (k+1) (intS st,odd)).2:=rfl
    rw [e2]
    repeat (first|refine zB ?_|refine zE ?_|refine zK G G G ?_|refine L_add G G (by omega) (by omega) G G ?_)
    exact ⟨by omega,_,(by repeat (first|exact zT _|refine zO G ?_)),vo',E+E2,h4,h5,_,rfl,hpl.add hpl2,ho5,hr4,yK.out⟩
   ·obtain rfl:k=n:=by omega
    repeat (first|refine zF ?_|refine yD ?_|refine zB ?_|refine zE ?_|refine zK G G G ?_|refine zM ?_|refine zI G ?_)
    exact ⟨[_],D+C (manyS one k (intS st,odd)).2.2+E+h2+h3,_,⟨rfl,trivial⟩,⟨E,h2,h3,hpl,ho,hr2,rfl⟩,yK.out⟩
theorem listBlk_spec (w0:World) (D:Hp) (b:Nat) (C:Bool→Hp) (k0:Nat) [hf:Fun Tryz.prog k0] (caps:List Value) (one:RS × Bool→Blk × (RS × Bool)) (least:Nat) (hleast:1≤least∧least≤1000) (s:RS × Bool) (h:Hp) (hr:RdrAt w0 D b s.1 h) (hl:s.1.left.length≤1000000000000)
  (hlen:∀ s,(one s).2.1.left.length≤s.1.left.length)
  (hone:∀ (s:RS × Bool) (h:Hp),s.1.left.length≤1000000000000→RdrAt w0 D b s.1 h→Spec Tryz.prog w0 k0 caps (D+C s.2+h) (fun r h'=>∃ e E h2,r=.agg e.toArray∧Plain E∧Rep.rd w0 (D+E) (one s).1 e∧RdrAt w0 D b (one s).2.1 h2∧D+C (one s).2.2+E+h2=h')) :
  Spec Tryz.prog w0 141 [.pointer (some ⟨b,0,none⟩),.int .i64 (least:Int),.func (.func k0) #[] caps.toArray] (D+C s.2+h)
   (fun r h'=>∃ E h2 h3,Plain E∧OwL w0 (D+E) (listV one least s).1 r h3∧RdrAt w0 D b (listV one least s).2.1 h2∧D+C (listV one least s).2.2+E+h2+h3=h'):=by
 obtain ⟨st,odd⟩:=s
 change st.left.length≤_ at hl
 change RdrAt w0 D b st h at hr
 change Spec _ _ _ _ (D+C odd+h) _
 have hl1:(intS st).left.length≤1000000000000:=by have:=takeS_len st 8; unfold intS; omega
 refine zN Tryz.func141 G Tryz.ntmps141 Tryz.results141 G fun fr=>?_
 repeat (first|refine zF ?_|refine zB ?_|refine zE ?_|refine zK G G G ?_)
 refine zY G G (zQ G G G) (getInt_spec w0 D b st h hr hl) ?_
 rintro _ _ ⟨h1,rfl,hr1,rfl⟩
 repeat (first|refine zF ?_|refine zB ?_|refine zE ?_|refine zK G G G ?_)
 refine yG G G (pv_lss G G) (fun n1=>?_) (fun n1=>?_)
 ·have hno:listV one least (st,odd)=([],(⟨[],true⟩,odd)):=by unfold listV; rw [if_neg (fun h=>by have:=h.1; simp only at this; omega)]
  rw [hno]
  repeat (first|refine zF ?_|refine zR ?_|refine zE ?_|refine zK G G G ?_|refine L_skip G G ?_|refine zJ G ?_)
  refine hold_loop (fun m g L=>∃ (s:RS) (h2 R:Hp),s.wf∧m=s.left.length+(if s.bad=true then 0 else 1)∧s.left.length≤1000000000000∧g=[(0,.pointer (some ⟨b,0,none⟩))]∧RdrAt w0 D b s h2∧L=D+C odd+h2+fr+R) _ _
   ⟨intS st,h1,0,takeS_wf _ _,rfl,hl1,rfl,hr1,by simp only [yB]; ac_rfl⟩ (by repeat (first|exact zT _|refine zO G ?_)) ?_
  rintro m g L ⟨s,h2,R,hwf,rfl,hsl,rfl,hrs,rfl⟩
  repeat (first|refine zF ?_|refine zB ?_|refine zK G G G ?_)
  refine zY G G (zQ G G G) (bad02_spec w0 D b s h2 hrs) ?_
  rintro _ _ ⟨rfl,rfl⟩
  cases hb:s.bad
  ·repeat (first|refine zR ?_|refine zB ?_|refine zE ?_|refine zK G G G ?_|refine zP ?_|refine zJ G ?_)
   refine zY G G (zQ G G G) (getInt_spec w0 D b s h2 hrs hsl) ?_
   rintro _ _ ⟨h3,rfl,hr3,rfl⟩
   repeat (refine zE ?_)
   refine ⟨_,_,?_,(by repeat (first|exact zT _|refine zO G ?_)),intS s,h3,_,takeS_wf _ _,rfl,by have:=takeS_len s 8; unfold intS; omega,rfl,hr3,yK.out⟩
   unfold intS takeS
   split
   ·rename_i ht
    have:(8:Int)≤s.left.length:=by simp [takeOk,hb] at ht; exact_mod_cast ht
    simp; omega
   ·simp
  ·have hs:s=⟨[],true⟩:=by
    obtain ⟨l,bd⟩:=s
    simp only at hb
    subst hb
    obtain rfl:l=[]:=hwf rfl
    rfl
   subst hs
   repeat (first|refine zF ?_|refine yD ?_|refine zB ?_|refine zE ?_|refine zK G G G ?_|refine zM ?_|refine zI G ?_)
   exact ⟨[_],D+C odd+0+h2+0,_,⟨rfl,trivial⟩,⟨0,h2,0,Plain.zero,OwL.nil _ _,hrs,rfl⟩,by simp only [yB]; exact yK.out⟩
 ·repeat (refine zK G G G ?_)
  refine zY G G (zQ G G G) (left02_spec w0 D b (intS st) h1 hr1) ?_
  rintro _ _ ⟨rfl,rfl⟩
  repeat (refine zK G G G ?_)
  refine yH G G (pv_quo_nn G G (by omega) (by omega) (by omega)) ?_
  refine yG G G (pv_gtr G G) (fun n2=>?_) (fun n2=>?_)
  ·have hno:listV one least (st,odd)=([],(⟨[],true⟩,odd)):=by
    unfold listV
    rw [if_neg (fun h=>by have:=h.2; simp only at this; rw [Int.natCast_ediv] at this; omega)]
   rw [hno]
   repeat (first|refine zF ?_|refine zR ?_|refine zE ?_|refine zK G G G ?_|refine zJ G ?_)
   refine hold_loop (fun m g L=>∃ (s:RS) (h2 R:Hp),s.wf∧m=s.left.length+(if s.bad=true then 0 else 1)∧s.left.length≤1000000000000∧g=[(0,.pointer (some ⟨b,0,none⟩))]∧RdrAt w0 D b s h2∧L=D+C odd+h2+fr+R) _ _
    ⟨intS st,h1,0,takeS_wf _ _,rfl,hl1,rfl,hr1,by simp only [yB]; ac_rfl⟩ (by repeat (first|exact zT _|refine zO G ?_)) ?_
   rintro m g L ⟨s,h2,R,hwf,rfl,hsl,rfl,hrs,rfl⟩
   repeat (first|refine zF ?_|refine zB ?_|refine zK G G G ?_)
   refine zY G G (zQ G G G) (bad02_spec w0 D b s h2 hrs) ?_
   rintro _ _ ⟨rfl,rfl⟩
   cases hb:s.bad
   ·repeat (first|refine zR ?_|refine zB ?_|refine zE ?_|refine zK G G G ?_|refine zP ?_|refine zJ G ?_)
    refine zY G G (zQ G G G) (getInt_spec w0 D b s h2 hrs hsl) ?_
    rintro _ _ ⟨h3,rfl,hr3,rfl⟩
    repeat (refine zE ?_)
    refine ⟨_,_,?_,(by repeat (first|exact zT _|refine zO G ?_)),intS s,h3,_,takeS_wf _ _,rfl,by have:=takeS_len s 8; unfold intS; omega,rfl,hr3,yK.out⟩
    unfold intS takeS
    split
    ·rename_i ht
     have:(8:Int)≤s.left.length:=by simp [takeOk,hb] at ht; exact_mod_cast ht
     simp; omega
    ·simp
   ·have hs:s=⟨[],true⟩:=by
     obtain ⟨l,bd⟩:=s
     simp only at hb
     subst hb
     obtain rfl:l=[]:=hwf rfl
     rfl
    subst hs
    repeat (first|refine zF ?_|refine yD ?_|refine zB ?_|refine zE ?_|refine zK G G G ?_|refine zM ?_|refine zI G ?_)
    exact ⟨[_],D+C odd+0+h2+0,_,⟨rfl,trivial⟩,⟨0,h2,0,Plain.zero,OwL.nil _ _,hrs,rfl⟩,by simp only [yB]; exact yK.out⟩
  ·obtain ⟨n,hn⟩:=Int.eq_ofNat_of_zero_le (show 0≤intV st by omega)
   have hnl:n≤(intS st).left.length / least:=by
    rw [hn] at n2
    have:((intS st).left.length:Int) / (least:Int)=(((intS st).left.length / least:Nat):Int):=(Int.natCast_ediv _ _).symm
    omega
   have hn12:n≤1000000000000:=Nat.le_trans hnl (Nat.le_trans (Nat.div_le_self _ _) hl1)
   have hyes:listV one least (st,odd)=manyS one n (intS st,odd):=by
    unfold listV
    rw [if_pos ⟨by simp only; omega,by simp only; rw [hn]; omega⟩]
    simp only [hn,Int.toNat_natCast]
   rw [hyes,hn]
   repeat (first|refine zF ?_|refine zR ?_|refine zB ?_|refine zE ?_|refine zK G G G ?_|refine zP ?_|refine zI G ?_)
   refine hold_count n (fun k g L=>∃ (vo:Value) (E h2 h3 R:Hp),g=[(2,.func (.func k0) #[] caps.toArray),(8,vo),(26,.int .i64 n),(27,.int .i64 k)]∧Plain E∧OwL w0 (D+E) (manyS one k (intS st,odd)).1 vo h3∧RdrAt w0 D b (manyS one k (intS st,odd)).2.1 h2 ∧
     L=D+C (manyS one k (intS st,odd)).2.2+E+h2+h3+fr+R) _
    ⟨.slice none 0 0,0,h1,0,0,rfl,Plain.zero,OwL.nil _ _,hr1,by simp only [manyS,yB]; ac_rfl⟩ (by repeat (first|exact zT _|refine zO G ?_)) ?_
   rintro k g L hk ⟨vo,E,h2,h3,R,rfl,hpl,ho,hr2,rfl⟩
   have hml:=manyS_len hlen k (intS st,odd)
   have hmn:=manyS_length one k (intS st,odd)
   repeat (first|refine zF ?_|refine zB ?_)
   refine yG G G (pv_lss G G) (fun n3=>?_) (fun n3=>?_)
   ·repeat (first|refine zF ?_|refine zR ?_|refine zB ?_|refine zE ?_|refine zK G G G ?_|refine zP ?_|refine zJ G ?_)
    refine zY G G (zQ G G (by simp<;>rfl)) (hone (manyS one k (intS st,odd)).2 h2 (by simp only at hml; omega) hr2) ?_
    rintro _ _ ⟨e,E2,h4,rfl,hpl2,he,hr4,rfl⟩
    obtain ⟨a9,c9,rfl,_⟩:=id he
    repeat (refine L_bs (vs:=[_]) (cells:=[_,_]) G G G G G G (fun _=>?_))
    refine L_eff G G (ev_appendL (X:=D+(E+E2)) (ns:=[(one (manyS one k (intS st,odd)).2).1]) (h:=h3) G G (ho.mono (R:=E2) (by ac_rfl)) (rd_one G) (All2.one (Rep.mono (R:=E) (by ac_rfl) he)) G G G G G (by rw [hmn]; simp only [List.length_singleton]; omega)) ?_
    rintro vo' _ ⟨h5,ho5,rfl⟩
    have e2:(one (manyS one k (intS st,odd)).2).2=(manyS one (k+1) (intS st,odd)).2:=rfl
    rw [e2]
    repeat (first|refine zB ?_|refine zE ?_|refine zK G G G ?_|refine L_add G G (by omega) (by omega) G G ?_)
    exact ⟨by omega,_,(by repeat (first|exact zT _|refine zO G ?_)),vo',E+E2,h4,h5,_,rfl,hpl.add hpl2,ho5,hr4,yK.out⟩
   ·obtain rfl:k=n:=by omega
    repeat (first|refine zF ?_|refine yD ?_|refine zB ?_|refine zE ?_|refine zK G G G ?_|refine zM ?_|refine zI G ?_)
    exact ⟨[_],D+C (manyS one k (intS st,odd)).2.2+E+h2+h3,_,⟨rfl,trivial⟩,⟨E,h2,h3,hpl,ho,hr2,rfl⟩,yK.out⟩
end Sl
end Go.Proofs.YtpkealohodeifaaGreat
namespace Go.Proofs.YtpkealohodeifaaGreat
open Go Go.RowKit
namespace Sl
set_option maxHeartbeats 8000000
set_option maxRecDepth 4000
attribute [local irreducible] Hold HoldL HoldW HoldV
theorem zero_mid {A h fr L R:Hp} (e:L=A+h+fr+R):L=A+0+h+fr+R:=by rw [yB]; exact e
abbrev St2 :=RS × Bool
def oneBlk (s:St2):Blk × St2:=(⟨intV s.1,blobV (intS s.1)⟩,(blobS (intS s.1),s.2))
def oneWr (s:St2):Wr × St2:=(⟨intV s.1,blobV (intS s.1)⟩,(blobS (intS s.1),s.2))
def oneKpt (s:St2):Kpt × St2:=(⟨intV s.1,intV (intS s.1),blobV (intS (intS s.1))⟩,(blobS (intS (intS s.1)),s.2))
def oneOut (s:St2):Outp × St2:=(⟨intV s.1,intV (intS s.1),intV (intS (intS s.1)),blobV (intS (intS (intS s.1)))⟩,(blobS (intS (intS (intS s.1))),s.2))
def oneSes (s:St2):Ses × St2:=(⟨intV s.1,intV (intS s.1),⟨intV (intS (intS s.1)),blobV (intS (intS (intS s.1)))⟩⟩,(blobS (intS (intS (intS s.1))),s.2))
def oddF (n:Int):Bool:=decide (n≠0∧n≠1)
def oneLk (s:St2):Lk × St2:=(⟨intV s.1,intV (intS s.1),intV (intS (intS s.1)),decide (intV (intS (intS (intS s.1)))=1)⟩,(intS (intS (intS (intS s.1))),s.2||oddF (intV (intS (intS (intS s.1))))))
def s5 (s:RS):RS:=intS (intS (intS (intS (intS s))))
def onePrp (s:St2):Prp × St2 :=
 (⟨intV s.1,intV (intS s.1),intV (intS (intS s.1)),intV (intS (intS (intS s.1))),intV (intS (intS (intS (intS s.1)))),intsV (s5 s.1),(listV oneWr 16 (intsS (s5 s.1),s.2)).1⟩,(listV oneWr 16 (intsS (s5 s.1),s.2)).2)
theorem intS_len (s:RS):(intS s).left.length≤s.left.length:=takeS_len s 8
theorem blobS_len (s:RS):(blobS s).left.length≤s.left.length:=Nat.le_trans (takeS_len _ _) (takeS_len _ _)
theorem intsS_len (s:RS):(intsS s).left.length≤s.left.length:=by
 unfold intsS
 split
 ·exact Nat.le_trans (many_len (f:=fun s=>(intV s,intS s)) (fun s=>intS_len s) _ _) (intS_len s)
 ·simp
theorem oneBlk_len (s:St2):(oneBlk s).2.1.left.length≤s.1.left.length:=Nat.le_trans (blobS_len _) (intS_len _)
theorem oneWr_len (s:St2):(oneWr s).2.1.left.length≤s.1.left.length:=Nat.le_trans (blobS_len _) (intS_len _)
theorem oneKpt_len (s:St2):(oneKpt s).2.1.left.length≤s.1.left.length:=Nat.le_trans (blobS_len _) (Nat.le_trans (intS_len _) (intS_len _))
theorem oneOut_len (s:St2):(oneOut s).2.1.left.length≤s.1.left.length:=Nat.le_trans (blobS_len _) (Nat.le_trans (intS_len _) (Nat.le_trans (intS_len _) (intS_len _)))
theorem oneSes_len (s:St2):(oneSes s).2.1.left.length≤s.1.left.length:=Nat.le_trans (blobS_len _) (Nat.le_trans (intS_len _) (Nat.le_trans (intS_len _) (intS_len _)))
theorem oneLk_len (s:St2):(oneLk s).2.1.left.length≤s.1.left.length:=Nat.le_trans (intS_len _) (Nat.le_trans (intS_len _) (Nat.le_trans (intS_len _) (intS_len _)))
theorem s5_len (s:RS):(s5 s).left.length≤s.left.length:=Nat.le_trans (intS_len _) (Nat.le_trans (intS_len _) (Nat.le_trans (intS_len _) (Nat.le_trans (intS_len _) (intS_len _))))
theorem onePrp_len (s:St2):(onePrp s).2.1.left.length≤s.1.left.length:=Nat.le_trans (listV_len oneWr_len 16 _) (Nat.le_trans (intsS_len _) (s5_len _))
abbrev boxR (bc b:Nat):Hp:=pt bc (.cells [.pointer (some ⟨b,0,none⟩)].toArray 87 (0,0))
theorem getBlk1_spec (w0:World) (D:Hp) (b bc:Nat) (s:St2) (h:Hp) (hl:s.1.left.length≤1000000000000) (hr:RdrAt w0 D b s.1 h) :
  Spec Tryz.prog w0 142 [.pointer (some ⟨bc,0,none⟩)] (D+boxR bc b+h) (fun r h'=>∃ e E h2,r=.agg e.toArray∧Plain E∧Rep.rd w0 (D+E) (oneBlk s).1 e∧RdrAt w0 D b (oneBlk s).2.1 h2∧D+boxR bc b+E+h2=h'):=by
 have hl1:=intS_len s.1
 refine zN Tryz.func142 G Tryz.ntmps142 Tryz.results142 G fun fr=>?_
 repeat (first|refine zF ?_|refine zB ?_|refine zE ?_|refine L_alloc (c:=[_,_]) G G G (fun _=>?_))
 refine yC [1,3,5] [0,2,1,3,4,5] (by kernel_rfl) G (by kernel_rfl) (by kernel_rfl) ?_
 repeat (refine W_load G G G G (yF G) (zG G (zS G)) ?_)
 refine W_call G G G G (zQ G G G) (getInt_spec w0 D b s.1 h hr hl) (Kept.all _) ?_
 rintro _ _ ⟨h2,rfl,hr2,rfl⟩
 refine ⟨(by repeat (first|exact trivial|exact zG G (zS G)|exact zL G G G|exact zX G (by assumption) G|exact zH G (by assumption) G|exact zH G (by assumption) (by assumption)|refine ⟨?_,?_⟩)),?_⟩
 refine W_call G G G G (zQ G G G) (getBlob_spec w0 D b (intS s.1) h2 hr2 (by omega)) (Kept.all _) ?_
 rintro _ _ ⟨a,c,h3,rfl,hrd,hr3,rfl⟩
 refine ⟨(by repeat (first|exact trivial|exact zG G (zS G)|exact zL G G G|exact zX G (by assumption) G|exact zH G (by assumption) G|exact zH G (by assumption) (by assumption)|refine ⟨?_,?_⟩)),?_⟩
 repeat (refine yE G G G G (pv_build (vs:=[_,_]) (cells:=[_,_]) G G) ?_)
 refine W_eff G G G G (ev_storeA (vs:=[_,_]) G G G G (c:=[_,_]) (Nat.le_of_ble_eq_true G) (c':=[_,_]) G) (Kept.all _) ?_
 rintro _ _ rfl
 refine ⟨(by repeat (first|exact trivial|exact zG G (zS G)|exact zL G G G|exact zX G (by assumption) G|exact zH G (by assumption) G|exact zH G (by assumption) (by assumption)|refine ⟨?_,?_⟩)),?_⟩
 repeat (refine yJ ?_)
 repeat (refine zM ?_)
 exact ⟨[_],D+boxR bc b+0+h3,_,⟨⟨_,rfl,zL G G G⟩,trivial⟩,⟨_,0,h3,rfl,Plain.zero,⟨a,c,rfl,by rw [yB]; exact hrd⟩,hr3,rfl⟩,zero_mid yK.out⟩
theorem getWr1_spec (w0:World) (D:Hp) (b bc:Nat) (s:St2) (h:Hp) (hl:s.1.left.length≤1000000000000) (hr:RdrAt w0 D b s.1 h) :
  Spec Tryz.prog w0 56 [.pointer (some ⟨bc,0,none⟩)] (D+boxR bc b+h) (fun r h'=>∃ e E h2,r=.agg e.toArray∧Plain E∧Rep.rd w0 (D+E) (oneWr s).1 e∧RdrAt w0 D b (oneWr s).2.1 h2∧D+boxR bc b+E+h2=h'):=by
 have hl1:=intS_len s.1
 refine zN Tryz.func56 G Tryz.ntmps56 Tryz.results56 G fun fr=>?_
 repeat (first|refine zF ?_|refine zB ?_|refine zE ?_|refine L_alloc (c:=[_,_]) G G G (fun _=>?_))
 refine yC [1,3,5] [0,2,1,3,4,5] (by kernel_rfl) G (by kernel_rfl) (by kernel_rfl) ?_
 repeat (refine W_load G G G G (yF G) (zG G (zS G)) ?_)
 refine W_call G G G G (zQ G G G) (getInt_spec w0 D b s.1 h hr hl) (Kept.all _) ?_
 rintro _ _ ⟨h2,rfl,hr2,rfl⟩
 refine ⟨(by repeat (first|exact trivial|exact zG G (zS G)|exact zL G G G|exact zX G (by assumption) G|exact zH G (by assumption) G|exact zH G (by assumption) (by assumption)|refine ⟨?_,?_⟩)),?_⟩
 refine W_call G G G G (zQ G G G) (getBlob_spec w0 D b (intS s.1) h2 hr2 (by omega)) (Kept.all _) ?_
 rintro _ _ ⟨a,c,h3,rfl,hrd,hr3,rfl⟩
 refine ⟨(by repeat (first|exact trivial|exact zG G (zS G)|exact zL G G G|exact zX G (by assumption) G|exact zH G (by assumption) G|exact zH G (by assumption) (by assumption)|refine ⟨?_,?_⟩)),?_⟩
 repeat (refine yE G G G G (pv_build (vs:=[_,_]) (cells:=[_,_]) G G) ?_)
 refine W_eff G G G G (ev_storeA (vs:=[_,_]) G G G G (c:=[_,_]) (Nat.le_of_ble_eq_true G) (c':=[_,_]) G) (Kept.all _) ?_
 rintro _ _ rfl
 refine ⟨(by repeat (first|exact trivial|exact zG G (zS G)|exact zL G G G|exact zX G (by assumption) G|exact zH G (by assumption) G|exact zH G (by assumption) (by assumption)|refine ⟨?_,?_⟩)),?_⟩
 repeat (refine yJ ?_)
 repeat (refine zM ?_)
 exact ⟨[_],D+boxR bc b+0+h3,_,⟨⟨_,rfl,zL G G G⟩,trivial⟩,⟨_,0,h3,rfl,Plain.zero,⟨a,c,rfl,by rw [yB]; exact hrd⟩,hr3,rfl⟩,zero_mid yK.out⟩
theorem getKpt1_spec (w0:World) (D:Hp) (b bc:Nat) (s:St2) (h:Hp) (hl:s.1.left.length≤1000000000000) (hr:RdrAt w0 D b s.1 h) :
  Spec Tryz.prog w0 144 [.pointer (some ⟨bc,0,none⟩)] (D+boxR bc b+h) (fun r h'=>∃ e E h2,r=.agg e.toArray∧Plain E∧Rep.rd w0 (D+E) (oneKpt s).1 e∧RdrAt w0 D b (oneKpt s).2.1 h2∧D+boxR bc b+E+h2=h'):=by
 have hl1:=intS_len s.1
 have hl2:=intS_len (intS s.1)
 refine zN Tryz.func144 G Tryz.ntmps144 Tryz.results144 G fun fr=>?_
 repeat (first|refine zF ?_|refine zB ?_|refine zE ?_|refine L_alloc (c:=[_,_,_]) G G G (fun _=>?_))
 refine yC [1,3,5,7] [0,2,4,1,3,5,6,7] (by kernel_rfl) G (by kernel_rfl) (by kernel_rfl) ?_
 repeat (refine W_load G G G G (yF G) (zG G (zS G)) ?_)
 refine W_call G G G G (zQ G G G) (getInt_spec w0 D b s.1 h hr hl) (Kept.all _) ?_
 rintro _ _ ⟨h2,rfl,hr2,rfl⟩
 refine ⟨(by repeat (first|exact trivial|exact zG G (zS G)|exact zL G G G|exact zX G (by assumption) G|exact zH G (by assumption) G|exact zH G (by assumption) (by assumption)|refine ⟨?_,?_⟩)),?_⟩
 refine W_call G G G G (zQ G G G) (getInt_spec w0 D b (intS s.1) h2 hr2 (by omega)) (Kept.all _) ?_
 rintro _ _ ⟨h4,rfl,hr4,rfl⟩
 refine ⟨(by repeat (first|exact trivial|exact zG G (zS G)|exact zL G G G|exact zX G (by assumption) G|exact zH G (by assumption) G|exact zH G (by assumption) (by assumption)|refine ⟨?_,?_⟩)),?_⟩
 refine W_call G G G G (zQ G G G) (getBlob_spec w0 D b (intS (intS s.1)) h4 hr4 (by omega)) (Kept.all _) ?_
 rintro _ _ ⟨a,c,h3,rfl,hrd,hr3,rfl⟩
 refine ⟨(by repeat (first|exact trivial|exact zG G (zS G)|exact zL G G G|exact zX G (by assumption) G|exact zH G (by assumption) G|exact zH G (by assumption) (by assumption)|refine ⟨?_,?_⟩)),?_⟩
 repeat (refine yE G G G G (pv_build (vs:=[_,_,_]) (cells:=[_,_,_]) G G) ?_)
 refine W_eff G G G G (ev_storeA (vs:=[_,_,_]) G G G G (c:=[_,_,_]) (Nat.le_of_ble_eq_true G) (c':=[_,_,_]) G) (Kept.all _) ?_
 rintro _ _ rfl
 refine ⟨(by repeat (first|exact trivial|exact zG G (zS G)|exact zL G G G|exact zX G (by assumption) G|exact zH G (by assumption) G|exact zH G (by assumption) (by assumption)|refine ⟨?_,?_⟩)),?_⟩
 repeat (refine yJ ?_)
 repeat (refine zM ?_)
 exact ⟨[_],D+boxR bc b+0+h3,_,⟨⟨_,rfl,zL G G G⟩,trivial⟩,⟨_,0,h3,rfl,Plain.zero,⟨a,c,rfl,by rw [yB]; exact hrd⟩,hr3,rfl⟩,zero_mid yK.out⟩
theorem getOut1_spec (w0:World) (D:Hp) (b bc:Nat) (s:St2) (h:Hp) (hl:s.1.left.length≤1000000000000) (hr:RdrAt w0 D b s.1 h) :
  Spec Tryz.prog w0 59 [.pointer (some ⟨bc,0,none⟩)] (D+boxR bc b+h) (fun r h'=>∃ e E h2,r=.agg e.toArray∧Plain E∧Rep.rd w0 (D+E) (oneOut s).1 e∧RdrAt w0 D b (oneOut s).2.1 h2∧D+boxR bc b+E+h2=h'):=by
 have hl1:=intS_len s.1
 have hl2:=intS_len (intS s.1)
 have hl3:=intS_len (intS (intS s.1))
 refine zN Tryz.func59 G Tryz.ntmps59 Tryz.results59 G fun fr=>?_
 repeat (first|refine zF ?_|refine zB ?_|refine zE ?_|refine L_alloc (c:=[_,_,_,_]) G G G (fun _=>?_))
 refine yC [1,3,5,7,9] [0,2,4,6,1,3,5,7,8,9] (by kernel_rfl) G (by kernel_rfl) (by kernel_rfl) ?_
 repeat (refine W_load G G G G (yF G) (zG G (zS G)) ?_)
 refine W_call G G G G (zQ G G G) (getInt_spec w0 D b s.1 h hr hl) (Kept.all _) ?_
 rintro _ _ ⟨h2,rfl,hr2,rfl⟩
 refine ⟨(by repeat (first|exact trivial|exact zG G (zS G)|exact zL G G G|exact zX G (by assumption) G|exact zH G (by assumption) G|exact zH G (by assumption) (by assumption)|refine ⟨?_,?_⟩)),?_⟩
 refine W_call G G G G (zQ G G G) (getInt_spec w0 D b (intS s.1) h2 hr2 (by omega)) (Kept.all _) ?_
 rintro _ _ ⟨h4,rfl,hr4,rfl⟩
 refine ⟨(by repeat (first|exact trivial|exact zG G (zS G)|exact zL G G G|exact zX G (by assumption) G|exact zH G (by assumption) G|exact zH G (by assumption) (by assumption)|refine ⟨?_,?_⟩)),?_⟩
 refine W_call G G G G (zQ G G G) (getInt_spec w0 D b (intS (intS s.1)) h4 hr4 (by omega)) (Kept.all _) ?_
 rintro _ _ ⟨h5,rfl,hr5,rfl⟩
 refine ⟨(by repeat (first|exact trivial|exact zG G (zS G)|exact zL G G G|exact zX G (by assumption) G|exact zH G (by assumption) G|exact zH G (by assumption) (by assumption)|refine ⟨?_,?_⟩)),?_⟩
 refine W_call G G G G (zQ G G G) (getBlob_spec w0 D b (intS (intS (intS s.1))) h5 hr5 (by omega)) (Kept.all _) ?_
 rintro _ _ ⟨a,c,h3,rfl,hrd,hr3,rfl⟩
 refine ⟨(by repeat (first|exact trivial|exact zG G (zS G)|exact zL G G G|exact zX G (by assumption) G|exact zH G (by assumption) G|exact zH G (by assumption) (by assumption)|refine ⟨?_,?_⟩)),?_⟩
 repeat (refine yE G G G G (pv_build (vs:=[_,_,_,_]) (cells:=[_,_,_,_]) G G) ?_)
 refine W_eff G G G G (ev_storeA (vs:=[_,_,_,_]) G G G G (c:=[_,_,_,_]) (Nat.le_of_ble_eq_true G) (c':=[_,_,_,_]) G) (Kept.all _) ?_
 rintro _ _ rfl
 refine ⟨(by repeat (first|exact trivial|exact zG G (zS G)|exact zL G G G|exact zX G (by assumption) G|exact zH G (by assumption) G|exact zH G (by assumption) (by assumption)|refine ⟨?_,?_⟩)),?_⟩
 repeat (refine yJ ?_)
 repeat (refine zM ?_)
 exact ⟨[_],D+boxR bc b+0+h3,_,⟨⟨_,rfl,zL G G G⟩,trivial⟩,⟨_,0,h3,rfl,Plain.zero,⟨a,c,rfl,by rw [yB]; exact hrd⟩,hr3,rfl⟩,zero_mid yK.out⟩
theorem getSes1_spec (w0:World) (D:Hp) (b bc:Nat) (s:St2) (h:Hp) (hl:s.1.left.length≤1000000000000) (hr:RdrAt w0 D b s.1 h) :
  Spec Tryz.prog w0 61 [.pointer (some ⟨bc,0,none⟩)] (D+boxR bc b+h) (fun r h'=>∃ e E h2,r=.agg e.toArray∧Plain E∧Rep.rd w0 (D+E) (oneSes s).1 e∧RdrAt w0 D b (oneSes s).2.1 h2∧D+boxR bc b+E+h2=h'):=by
 have hl1:=intS_len s.1
 have hl2:=intS_len (intS s.1)
 have hl3:=intS_len (intS (intS s.1))
 refine zN Tryz.func61 G Tryz.ntmps61 Tryz.results61 G fun fr=>?_
 repeat (first|refine zF ?_|refine zB ?_|refine zE ?_|refine L_alloc (c:=[_,_,_,_]) G G G (fun _=>?_))
 refine hold_drawV [1,3,5,6] [0,2,1,3,4,5,6] 5 2 [.int .i64 0,.int .i64 0,.int .i64 0,.slice none 0 0] 110 (by kernel_rfl) G (by kernel_rfl) (by kernel_rfl) (by kernel_rfl) ?_
 repeat (refine V_load G G (fun _=>rfl) (zG G (zS G)) G G G G ?_)
 refine V_call G G G G G (zQ G G G) (fun _=>zQ G G G) (getInt_spec w0 D b s.1 h hr hl) (Kept.all _) G G G G ?_
 rintro _ _ ⟨h2,rfl,hr2,rfl⟩
 refine ⟨(by repeat (first|exact trivial|exact zG G (zS G)|exact zL G G G|exact zX G (by assumption) G|exact zH G (by assumption) G|exact zH G (by assumption) (by assumption)|refine ⟨?_,?_⟩)),?_⟩
 refine V_call G G G G G (zQ G G G) (fun _=>zQ G G G) (getInt_spec w0 D b (intS s.1) h2 hr2 (by omega)) (Kept.all _) G G G G ?_
 rintro _ _ ⟨h4,rfl,hr4,rfl⟩
 refine ⟨(by repeat (first|exact trivial|exact zG G (zS G)|exact zL G G G|exact zX G (by assumption) G|exact zH G (by assumption) G|exact zH G (by assumption) (by assumption)|refine ⟨?_,?_⟩)),?_⟩
 repeat (refine V_pure G (pv_build (vs:=[_,_]) (cells:=[_,_,_,_]) G G) (fun _=>pv_build (vs:=[_,_]) (cells:=[_,_,_,_]) G G) G G G G ?_)
 refine V_now G G G G (fun b2=>?_)
 refine W_eff G G G G (ev_storeA (vs:=[_,_,_,_]) G G G G (c:=[_,_,_,_]) (Nat.le_of_ble_eq_true G) (c':=[_,_,_,_]) G) (Kept.all _) ?_
 rintro _ _ rfl
 refine ⟨(by repeat (first|exact trivial|exact zG G (zS G)|exact zL G G G|exact zX G (by assumption) G|exact zH G (by assumption) G|exact zH G (by assumption) (by assumption)|refine ⟨?_,?_⟩)),?_⟩
 repeat (refine yJ ?_)
 repeat (refine zF ?_)
 refine yC [1,3,6] [0,2,1,3,4,5,6] (by kernel_rfl) G (by kernel_rfl) (by kernel_rfl) ?_
 repeat (refine W_load G G G G (yF G) (zG G (zS G)) ?_)
 refine W_call G G G G (zQ G G G) (getInt_spec w0 D b (intS (intS s.1)) h4 hr4 (by omega)) (Kept.all _) ?_
 rintro _ _ ⟨h5,rfl,hr5,rfl⟩
 refine ⟨(by repeat (first|exact trivial|exact zG G (zS G)|exact zL G G G|exact zX G (by assumption) G|exact zH G (by assumption) G|exact zH G (by assumption) (by assumption)|refine ⟨?_,?_⟩)),?_⟩
 refine W_call G G G G (zQ G G G) (getBlob_spec w0 D b (intS (intS (intS s.1))) h5 hr5 (by omega)) (Kept.all _) ?_
 rintro _ _ ⟨a,c,h3,rfl,hrd,hr3,rfl⟩
 refine ⟨(by repeat (first|exact trivial|exact zG G (zS G)|exact zL G G G|exact zX G (by assumption) G|exact zH G (by assumption) G|exact zH G (by assumption) (by assumption)|refine ⟨?_,?_⟩)),?_⟩
 repeat (first|refine yE G G G G (yA G G G) ?_|refine yE G G G G (pv_build (vs:=[_,_]) (cells:=[_,_]) G G) ?_)
 refine W_eff G G G G (ev_storeA (vs:=[_,_]) G G G G (c:=[_,_,_,_]) (Nat.le_of_ble_eq_true G) (c':=[_,_,_,_]) G) (Kept.all _) ?_
 rintro _ _ rfl
 refine ⟨(by repeat (first|exact trivial|exact zG G (zS G)|exact zL G G G|exact zX G (by assumption) G|exact zH G (by assumption) G|exact zH G (by assumption) (by assumption)|refine ⟨?_,?_⟩)),?_⟩
 repeat (refine yJ ?_)
 repeat (first|refine zF ?_|refine zB ?_|refine zE ?_|refine zM ?_|refine L_ldA G (vs:=[_,_,_,_]) G G G G G ?_|refine L_stA G (vs:=[_,_,_,_]) G G G G (c':=[_,_,_,_]) G G ?_)
 exact ⟨[_],D+boxR bc b+0+h3,_,⟨⟨_,rfl,zL G G G⟩,trivial⟩,⟨_,0,h3,rfl,Plain.zero,⟨a,c,rfl,by rw [yB]; exact hrd⟩,hr3,rfl⟩,zero_mid yK.out⟩
theorem getLk1_spec (w0:World) (D:Hp) (b bc bo:Nat) (s:St2) (h:Hp) (hl:s.1.left.length≤1000000000000) (hr:RdrAt w0 D b s.1 h) :
  Spec Tryz.prog w0 51 [.pointer (some ⟨bc,0,none⟩),.pointer (some ⟨bo,0,none⟩)] (D+(boxR bc b+pt bo (.cells [.bool s.2].toArray 4 (0,0)))+h)
   (fun r h'=>∃ e E h2,r=.agg e.toArray∧Plain E∧Rep.rd w0 (D+E) (oneLk s).1 e∧RdrAt w0 D b (oneLk s).2.1 h2∧D+(boxR bc b+pt bo (.cells [.bool (oneLk s).2.2].toArray 4 (0,0)))+E+h2=h'):=by
 have hl1:=intS_len s.1
 have hl2:=intS_len (intS s.1)
 have hl3:=intS_len (intS (intS s.1))
 refine zN Tryz.func51 G Tryz.ntmps51 Tryz.results51 G fun fr=>?_
 repeat (first|refine zF ?_|refine zB ?_|refine zE ?_|refine L_alloc (c:=[_,_,_,_]) G G G (fun _=>?_))
 refine hold_drawV [1,3,5,7,8] [0,2,4,1,3,5,6,7,8] 7 3 [.int .i64 0,.int .i64 0,.int .i64 0,.bool false] 94 (by kernel_rfl) G (by kernel_rfl) (by kernel_rfl) (by kernel_rfl) ?_
 repeat (refine V_load G G (fun _=>rfl) (zG G (zS G)) G G G G ?_)
 refine V_call G G G G G (zQ G G G) (fun _=>zQ G G G) (getInt_spec w0 D b s.1 h hr hl) (Kept.all _) G G G G ?_
 rintro _ _ ⟨h2,rfl,hr2,rfl⟩
 refine ⟨(by repeat (first|exact trivial|exact zG G (zS G)|exact zL G G G|exact zX G (by assumption) G|exact zH G (by assumption) G|exact zH G (by assumption) (by assumption)|refine ⟨?_,?_⟩)),?_⟩
 refine V_call G G G G G (zQ G G G) (fun _=>zQ G G G) (getInt_spec w0 D b (intS s.1) h2 hr2 (by omega)) (Kept.all _) G G G G ?_
 rintro _ _ ⟨h4,rfl,hr4,rfl⟩
 refine ⟨(by repeat (first|exact trivial|exact zG G (zS G)|exact zL G G G|exact zX G (by assumption) G|exact zH G (by assumption) G|exact zH G (by assumption) (by assumption)|refine ⟨?_,?_⟩)),?_⟩
 refine V_call G G G G G (zQ G G G) (fun _=>zQ G G G) (getInt_spec w0 D b (intS (intS s.1)) h4 hr4 (by omega)) (Kept.all _) G G G G ?_
 rintro _ _ ⟨h5,rfl,hr5,rfl⟩
 refine ⟨(by repeat (first|exact trivial|exact zG G (zS G)|exact zL G G G|exact zX G (by assumption) G|exact zH G (by assumption) G|exact zH G (by assumption) (by assumption)|refine ⟨?_,?_⟩)),?_⟩
 repeat (refine V_pure G (pv_build (vs:=[_,_,_]) (cells:=[_,_,_,_]) G G) (fun _=>pv_build (vs:=[_,_,_]) (cells:=[_,_,_,_]) G G) G G G G ?_)
 refine V_now G G G G (fun b3=>?_)
 refine W_eff G G G G (ev_storeA (vs:=[_,_,_,_]) G G G G (c:=[_,_,_,_]) (Nat.le_of_ble_eq_true G) (c':=[_,_,_,_]) G) (Kept.all _) ?_
 rintro _ _ rfl
 refine ⟨(by repeat (first|exact trivial|exact zG G (zS G)|exact zL G G G|exact zX G (by assumption) G|exact zH G (by assumption) G|exact zH G (by assumption) (by assumption)|refine ⟨?_,?_⟩)),?_⟩
 repeat (refine yJ ?_)
 repeat (first|refine zF ?_|refine zB ?_|refine L_ld G G G G G ?_)
 refine zY G G (zQ G G G) (getInt_spec w0 D b (intS (intS (intS s.1))) h5 hr5 (by omega)) ?_
 rintro _ _ ⟨h6,rfl,hr6,rfl⟩
 have fin:∀ {g:Env} {L R:Hp} {b2:Nat} (od wr:Bool),look g 2=some (.pointer (some ⟨b2,0,none⟩))→od=(oneLk s).2.2→wr=(oneLk s).1.write →
   Loads Tryz.prog w0 L 94 ⟨b2,0,none⟩ (.agg [.int .i64 (intV s.1),.int .i64 (intV (intS s.1)),.int .i64 (intV (intS (intS s.1))),.bool wr].toArray) →
   L=D+(boxR bc b+pt bo (.cells [.bool od].toArray 4 (0,0)))+h6+fr+R →
   ∃ vs h R',ResOk Tryz.prog w0 g L [.cell 2 94] vs∧(∃ e E h2,oneV vs=.agg e.toArray∧Plain E∧Rep.rd w0 (D+E) (oneLk s).1 e∧RdrAt w0 D b (oneLk s).2.1 h2∧D+(boxR bc b+pt bo (.cells [.bool (oneLk s).2.2].toArray 4 (0,0)))+E+h2=h)∧L=h+fr+R':=by
  intro g L R b2 od wr hg ho hw hL he
  subst ho; subst hw
  exact ⟨[_],_,R,⟨⟨_,hg,hL⟩,trivial⟩,⟨_,0,h6,rfl,Plain.zero,rfl,hr6,rfl⟩,zero_mid he⟩
 generalize hn:intV (intS (intS (intS s.1)))=n at fin
 have ho:∀ x:Bool,x=oddF n→(s.2||x)=(oneLk s).2.2:=by rintro x rfl; rw [← hn]; rfl
 have hw:∀ x:Bool,x=decide (n=1)→x=(oneLk s).1.write:=by rintro x rfl; rw [← hn]; rfl
 have e1:(oneLk s).1.write=decide (n=1):=by rw [← hn]; rfl
 cases h2':s.2
 ·rw [h2'] at ho
  have ho':∀ x:Bool,x=oddF n→x=(oneLk s).2.2:=fun x hx=>by simpa using ho x hx
  repeat (first|refine zF ?_|refine zB ?_|refine zE ?_|refine zK G G G ?_|refine L_ld G G G G G ?_)
  refine yG G G (pv_neq G G) (fun n1=>?_) (fun n1=>?_)
  ·repeat (refine zK G G G ?_)
   refine yG G G (pv_neq G G) (fun n2=>?_) (fun n2=>?_)
   ·repeat (first|refine zF ?_|refine zB ?_|refine zE ?_|refine zK G G G ?_|refine L_st G G G (c':=[_]) G G G G ?_)
    refine L_no G G (pv_eql G G) n2 ?_
    repeat (first|refine zF ?_|refine zB ?_|refine zE ?_|refine zZ G G G G G ?_|refine zM ?_|refine L_st G G G (c':=[_,_,_,_]) G G G G ?_|refine L_ldA G (vs:=[_,_,_,_]) G G G G G ?_|refine L_stA G (vs:=[_,_,_,_]) G G G G (c':=[_,_,_,_]) G G ?_)
    exact fin true false G (ho' _ (decide_eq_true ⟨n1,n2⟩).symm) (hw _ (decide_eq_false n2).symm) (zL G G G) yK.out
   ·repeat (first|refine zF ?_|refine zB ?_|refine zE ?_|refine zK G G G ?_|refine L_st G G G (c':=[_]) G G G G ?_)
    refine L_yes G G (pv_eql G G) (by omega) ?_
    repeat (first|refine zF ?_|refine zB ?_|refine zE ?_|refine zZ G G G G G ?_|refine zM ?_|refine L_st G G G (c':=[_,_,_,_]) G G G G ?_|refine L_ldA G (vs:=[_,_,_,_]) G G G G G ?_|refine L_stA G (vs:=[_,_,_,_]) G G G G (c':=[_,_,_,_]) G G ?_)
    exact fin false true G (ho' _ (decide_eq_false (fun h=>n2 h.2)).symm) (hw _ (decide_eq_true (by omega)).symm) (zL G G G) yK.out
  ·repeat (first|refine zF ?_|refine zB ?_|refine zE ?_|refine zK G G G ?_|refine L_skip G G ?_|refine L_st G G G (c':=[_]) G G G G ?_)
   refine L_no G G (pv_eql G G) (by omega) ?_
   repeat (first|refine zF ?_|refine zB ?_|refine zE ?_|refine zZ G G G G G ?_|refine zM ?_|refine L_st G G G (c':=[_,_,_,_]) G G G G ?_|refine L_ldA G (vs:=[_,_,_,_]) G G G G G ?_|refine L_stA G (vs:=[_,_,_,_]) G G G G (c':=[_,_,_,_]) G G ?_)
   exact fin false false G (ho' _ (decide_eq_false (fun h=>n1 h.1)).symm) (hw _ (decide_eq_false (by omega)).symm) (zL G G G) yK.out
 ·rw [h2'] at ho
  have ho':true=(oneLk s).2.2:=by simpa using ho _ rfl
  repeat (first|refine zF ?_|refine zB ?_|refine zE ?_|refine zK G G G ?_|refine L_ld G G G G G ?_|refine L_skip G G ?_|refine L_st G G G (c':=[_]) G G G G ?_)
  refine yG G G (pv_eql G G) (fun n2=>?_) (fun n2=>?_)
  ·repeat (first|refine zF ?_|refine zB ?_|refine zE ?_|refine zZ G G G G G ?_|refine zM ?_|refine L_st G G G (c':=[_,_,_,_]) G G G G ?_|refine L_ldA G (vs:=[_,_,_,_]) G G G G G ?_|refine L_stA G (vs:=[_,_,_,_]) G G G G (c':=[_,_,_,_]) G G ?_)
   exact fin true true G ho' (hw _ (decide_eq_true n2).symm) (zL G G G) yK.out
  ·repeat (first|refine zF ?_|refine zB ?_|refine zE ?_|refine zZ G G G G G ?_|refine zM ?_|refine L_st G G G (c':=[_,_,_,_]) G G G G ?_|refine L_ldA G (vs:=[_,_,_,_]) G G G G G ?_|refine L_stA G (vs:=[_,_,_,_]) G G G G (c':=[_,_,_,_]) G G ?_)
   exact fin true false G ho' (hw _ (decide_eq_false n2).symm) (zL G G G) yK.out
theorem getPrp1_spec (w0:World) (D:Hp) (b bc:Nat) (s:St2) (h:Hp) (hl:s.1.left.length≤1000000000000) (hr:RdrAt w0 D b s.1 h) :
  Spec Tryz.prog w0 53 [.pointer (some ⟨bc,0,none⟩)] (D+boxR bc b+h) (fun r h'=>∃ e E h2,r=.agg e.toArray∧Plain E∧Rep.rd w0 (D+E) (onePrp s).1 e∧RdrAt w0 D b (onePrp s).2.1 h2∧D+boxR bc b+E+h2=h'):=by
 have hl1:=intS_len s.1
 have hl2:=intS_len (intS s.1)
 have hl3:=intS_len (intS (intS s.1))
 have hl4:=intS_len (intS (intS (intS s.1)))
 have hl5:=s5_len s.1
 have hl6:=intsS_len (s5 s.1)
 refine zN Tryz.func53 G Tryz.ntmps53 Tryz.results53 G fun fr=>?_
 repeat (first|refine zF ?_|refine zB ?_|refine zE ?_|refine L_alloc (c:=[_,_,_,_,_,_,_]) G G G (fun _=>?_))
 refine hold_drawV [1,3,5,7,9,11,13,14] [0,2,4,6,8,10,1,3,5,7,9,11,12,13,14] 13 2 [.int .i64 0,.int .i64 0,.int .i64 0,.int .i64 0,.int .i64 0,.slice none 0 0,.slice none 0 0] 57 (by kernel_rfl) G (by kernel_rfl) (by kernel_rfl) (by kernel_rfl) ?_
 repeat (refine V_load G G (fun _=>rfl) (zG G (zS G)) G G G G ?_)
 refine V_call G G G G G (zQ G G G) (fun _=>zQ G G G) (getInt_spec w0 D b s.1 h hr hl) (Kept.all _) G G G G ?_
 rintro _ _ ⟨h2,rfl,hr2,rfl⟩
 refine ⟨(by repeat (first|exact trivial|exact zG G (zS G)|exact zL G G G|exact zX G (by assumption) G|exact zH G (by assumption) G|exact zH G (by assumption) (by assumption)|refine ⟨?_,?_⟩)),?_⟩
 refine V_call G G G G G (zQ G G G) (fun _=>zQ G G G) (getInt_spec w0 D b (intS s.1) h2 hr2 (by omega)) (Kept.all _) G G G G ?_
 rintro _ _ ⟨h4,rfl,hr4,rfl⟩
 refine ⟨(by repeat (first|exact trivial|exact zG G (zS G)|exact zL G G G|exact zX G (by assumption) G|exact zH G (by assumption) G|exact zH G (by assumption) (by assumption)|refine ⟨?_,?_⟩)),?_⟩
 refine V_call G G G G G (zQ G G G) (fun _=>zQ G G G) (getInt_spec w0 D b (intS (intS s.1)) h4 hr4 (by omega)) (Kept.all _) G G G G ?_
 rintro _ _ ⟨h5,rfl,hr5,rfl⟩
 refine ⟨(by repeat (first|exact trivial|exact zG G (zS G)|exact zL G G G|exact zX G (by assumption) G|exact zH G (by assumption) G|exact zH G (by assumption) (by assumption)|refine ⟨?_,?_⟩)),?_⟩
 refine V_call G G G G G (zQ G G G) (fun _=>zQ G G G) (getInt_spec w0 D b (intS (intS (intS s.1))) h5 hr5 (by omega)) (Kept.all _) G G G G ?_
 rintro _ _ ⟨h6,rfl,hr6,rfl⟩
 refine ⟨(by repeat (first|exact trivial|exact zG G (zS G)|exact zL G G G|exact zX G (by assumption) G|exact zH G (by assumption) G|exact zH G (by assumption) (by assumption)|refine ⟨?_,?_⟩)),?_⟩
 refine V_call G G G G G (zQ G G G) (fun _=>zQ G G G) (getInt_spec w0 D b (intS (intS (intS (intS s.1)))) h6 hr6 (by omega)) (Kept.all _) G G G G ?_
 rintro _ _ ⟨h7,rfl,hr7,rfl⟩
 refine ⟨(by repeat (first|exact trivial|exact zG G (zS G)|exact zL G G G|exact zX G (by assumption) G|exact zH G (by assumption) G|exact zH G (by assumption) (by assumption)|refine ⟨?_,?_⟩)),?_⟩
 refine V_call G G G G G (zQ G G G) (fun _=>zQ G G G) (getInts_spec w0 D b (s5 s.1) h7 hr7 (by omega)) (Kept.all _) G G G G ?_
 rintro _ _ ⟨a8,c8,h8,h9,rfl,ho9,hr8,rfl⟩
 refine ⟨(by repeat (first|exact trivial|exact zG G (zS G)|exact zL G G G|exact zX G (by assumption) G|exact zH G (by assumption) G|exact zH G (by assumption) (by assumption)|refine ⟨?_,?_⟩)),?_⟩
 repeat (refine V_pure G (pv_build (vs:=[_,_,_,_,_,_]) (cells:=[_,_,_,_,_,_,_]) G G) (fun _=>pv_build (vs:=[_,_,_,_,_,_]) (cells:=[_,_,_,_,_,_,_]) G G) G G G G ?_)
 refine V_now G G G G (fun b2=>?_)
 refine W_eff G G G G (ev_storeA (vs:=[_,_,_,_,_,_,_]) G G G G (c:=[_,_,_,_,_,_,_]) (Nat.le_of_ble_eq_true G) (c':=[_,_,_,_,_,_,_]) G) (Kept.all _) ?_
 rintro _ _ rfl
 refine ⟨(by repeat (first|exact trivial|exact zG G (zS G)|exact zL G G G|exact zX G (by assumption) G|exact zH G (by assumption) G|exact zH G (by assumption) (by assumption)|refine ⟨?_,?_⟩)),?_⟩
 repeat (refine yJ ?_)
 repeat (first|refine zF ?_|refine zB ?_|refine L_ld G G G G G ?_|refine L_clo G G G ?_)
 have hlist:=listWr_spec w0 D b (fun _=>boxR bc b) 56 [.pointer (some ⟨bc,0,none⟩)] oneWr 16 ⟨by omega,by omega⟩ (intsS (s5 s.1),s.2) h8 hr8 (by simp only; omega) oneWr_len (fun s h hl hr=>getWr1_spec w0 D b bc s h hl hr)
 refine zY G G (zQ G G G) hlist ?_
 rintro vw _ ⟨E,h10,h11,hplE,ho11,hr10,rfl⟩
 obtain ⟨aw,cw,rfl⟩:=ho11.shape
 repeat (first|refine zF ?_|refine zB ?_|refine zE ?_|refine zZ G G G G G ?_|refine zM ?_|refine L_st G G G (c':=[_,_,_,_,_,_,_]) G G G G ?_|refine L_ldA G (vs:=[_,_,_,_,_,_,_]) G G G G G ?_|refine L_stA G (vs:=[_,_,_,_,_,_,_]) G G G G (c':=[_,_,_,_,_,_,_]) G G ?_)
 exact ⟨[_],D+boxR bc b+(E+h11+h9)+h10,_,⟨⟨_,rfl,zL G G G⟩,trivial⟩,⟨_,E+h11+h9,h10,rfl,(hplE.add ho11.plain).add ho9.plain,⟨a8,c8,aw,cw,rfl,ho9.rdh.mono (R:=D+E+h11) (by ac_rfl),(ho11.rd0).mono (R:=h9) (by ac_rfl)⟩,hr10,rfl⟩,yK.out⟩
end Sl
end Go.Proofs.YtpkealohodeifaaGreat
