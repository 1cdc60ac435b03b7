/-
  What shardMoved.proved hangs on, part 4 of 7: ShR, ShS, ShT, ShU, Shelf, LkF, LkG, LkL, LkS, ShTk, ShV, ShW, ShX.
-/
import Derived.Test.YtpkealohodeifaaGreatMo3
import Derived.Shelf.Sort.Plain
import Derived.Ground.Names2Prog
import Derived.Shelf.Slices.CompactI
import Derived.Shelf.Slices.In.SortNone
import Derived.Test.YtpkealohodeifaaGreatProg
import Derived.Test.YtpkealohodeifaaGreatMo2
set_option linter.unusedVariables false
set_option linter.unusedSimpArgs false
namespace Go.Proofs.YtpkealohodeifaaGreat
open Go Go.RowKit
namespace Sl
set_option maxHeartbeats 8000000
set_option maxRecDepth 4000
attribute [local irreducible] Hold HoldL HoldW HoldV
def manyS {σ α : Type} (f : σ → α × σ) : Nat → σ → List α × σ
 | 0,s => ([],s)
 | k + 1,s => ((manyS f k s).1 ++ [(f (manyS f k s).2).1],(f (manyS f k s).2).2)
theorem manyS_length {σ α : Type} (f : σ → α × σ) : ∀ k s,(manyS f k s).1.length = k
 | 0,_ => rfl
 | k + 1,s => by simp [manyS,manyS_length f k s]
theorem manyS_len {α : Type} {f : RS × Bool → α × (RS × Bool)} (hf : ∀ s,(f s).2.1.left.length ≤ s.1.left.length) : ∀ k s,(manyS f k s).2.1.left.length ≤ s.1.left.length
 | 0,_ => Nat.le_refl _
 | k + 1,s => Nat.le_trans (hf _) (manyS_len hf k s)
def listV {α : Type} (one : RS × Bool → α × (RS × Bool)) (least : Nat) (s : RS × Bool) : List α × (RS × Bool) :=
 if 0 ≤ intV s.1 ∧ intV s.1 ≤ ((intS s.1).left.length / least : Nat) then manyS one (intV s.1).toNat (intS s.1,s.2) else ([],(⟨[],true⟩,s.2))
theorem listV_len {α : Type} {one : RS × Bool → α × (RS × Bool)} (hf : ∀ s,(one s).2.1.left.length ≤ s.1.left.length) (least : Nat) (s : RS × Bool) : (listV one least s).2.1.left.length ≤ s.1.left.length := by
 unfold listV
 split
 ·exact Nat.le_trans (manyS_len hf _ _) (takeS_len _ _)
 ·simp
theorem listKpt_spec (w0 : World) (D : Hp) (b : Nat) (C : Bool → Hp) (k0 : Nat) [hf : Fun Tryz.prog k0] (caps : List Value) (one : RS × Bool → Kpt × (RS × Bool)) (least : Nat) (hleast : 1 ≤ least ∧ least ≤ 1000) (s : RS × Bool) (h : Hp) (hr : RdrAt w0 D b s.1 h) (hl : s.1.left.length ≤ 1000000000000)
  (hlen : ∀ s,(one s).2.1.left.length ≤ s.1.left.length)
  (hone : ∀ (s : RS × Bool) (h : Hp),s.1.left.length ≤ 1000000000000 → RdrAt w0 D b s.1 h → Spec Tryz.prog w0 k0 caps (D + C s.2 + h) (fun r h' => ∃ e E h2,r = .agg e.toArray ∧ Rep.rd w0 (D + E) (one s).1 e ∧ RdrAt w0 D b (one s).2.1 h2 ∧ D + C (one s).2.2 + E + h2 = h')) :
  Spec Tryz.prog w0 143 [.pointer (some ⟨b,0,none⟩),.int .i64 (least : Int),.func (.func k0) #[] caps.toArray] (D + C s.2 + h)
   (fun r h' => ∃ E h2 h3,OwL w0 (D + E) (listV one least s).1 r h3 ∧ RdrAt w0 D b (listV one least s).2.1 h2 ∧ D + C (listV one least s).2.2 + E + h2 + h3 = h') := by
 obtain ⟨st,odd⟩ := s
 change st.left.length ≤ _ at hl
 change RdrAt w0 D b st h at hr
 change Spec _ _ _ _ (D + C odd + h) _
 have hl1 : (intS st).left.length ≤ 1000000000000 := by have := takeS_len st 8; unfold intS; omega
 refine zN Tryz.func143 rfl Tryz.ntmps143 Tryz.results143 rfl fun fr => ?_
 repeat (first | refine zF ?_ | refine zB ?_ | refine zE ?_ | refine zK rfl rfl rfl ?_)
 refine zY rfl rfl (zQ rfl rfl rfl) (getInt_spec w0 D b st h hr hl) ?_
 rintro _ _ ⟨h1,rfl,hr1,rfl⟩
 repeat (first | refine zF ?_ | refine zB ?_ | refine zE ?_ | refine zK rfl rfl rfl ?_)
 refine yG rfl rfl (pv_lss rfl rfl) (fun n1 => ?_) (fun n1 => ?_)
 ·have hno : listV one least (st,odd) = ([],(⟨[],true⟩,odd)) := by unfold listV; rw [if_neg (fun h => by have := h.1; simp only at this; omega)]
  rw [hno]
  repeat (first | refine zF ?_ | refine zR ?_ | refine zE ?_ | refine zK rfl rfl rfl ?_ | refine L_skip rfl rfl ?_ | refine zJ rfl ?_)
  refine hold_loop (fun m g L => ∃ (s : RS) (h2 R : Hp),s.wf ∧ m = s.left.length + (if s.bad = true then 0 else 1) ∧ s.left.length ≤ 1000000000000 ∧ g = [(0,.pointer (some ⟨b,0,none⟩))] ∧ RdrAt w0 D b s h2 ∧ L = D + C odd + h2 + fr + R) _ _
   ⟨intS st,h1,0,takeS_wf _ _,rfl,hl1,rfl,hr1,by simp only [yB]; ac_rfl⟩ (by repeat (first | exact zT _ | refine zO rfl ?_)) ?_
  rintro m g L ⟨s,h2,R,hwf,rfl,hsl,rfl,hrs,rfl⟩
  repeat (first | refine zF ?_ | refine zB ?_ | refine zK rfl rfl rfl ?_)
  refine zY rfl rfl (zQ rfl rfl rfl) (bad02_spec w0 D b s h2 hrs) ?_
  rintro _ _ ⟨rfl,rfl⟩
  cases hb : s.bad
  ·repeat (first | refine zR ?_ | refine zB ?_ | refine zE ?_ | refine zK rfl rfl rfl ?_ | refine zP ?_ | refine zJ rfl ?_)
   refine zY rfl rfl (zQ rfl rfl rfl) (getInt_spec w0 D b s h2 hrs hsl) ?_
   rintro _ _ ⟨h3,rfl,hr3,rfl⟩
   repeat (refine zE ?_)
   refine ⟨_,_,?_,(by repeat (first | exact zT _ | refine zO rfl ?_)),intS s,h3,_,takeS_wf _ _,rfl,by have := takeS_len s 8; unfold intS; omega,rfl,hr3,yK.out⟩
   unfold intS takeS
   split
   ·rename_i ht
    have : (8 : Int) ≤ s.left.length := by simp [takeOk,hb] at ht; exact_mod_cast ht
    simp; omega
   ·simp
  ·have hs : s = ⟨[],true⟩ := by
    obtain ⟨l,bd⟩ := s
    simp only at hb
    subst hb
    obtain rfl : l = [] := hwf rfl
    rfl
   subst hs
   repeat (first | refine zF ?_ | refine yD ?_ | refine zB ?_ | refine zE ?_ | refine zK rfl rfl rfl ?_ | refine zM ?_ | refine zI rfl ?_)
   exact ⟨[_],D + C odd + 0 + h2 + 0,_,⟨rfl,trivial⟩,⟨0,h2,0,OwL.nil _ _,hrs,rfl⟩,by simp only [yB]; exact yK.out⟩
 ·repeat (refine zK rfl rfl rfl ?_)
  refine zY rfl rfl (zQ rfl rfl rfl) (left02_spec w0 D b (intS st) h1 hr1) ?_
  rintro _ _ ⟨rfl,rfl⟩
  repeat (refine zK rfl rfl rfl ?_)
  refine yH rfl rfl (pv_quo_nn rfl rfl (by omega) (by omega) (by omega)) ?_
  refine yG rfl rfl (pv_gtr rfl rfl) (fun n2 => ?_) (fun n2 => ?_)
  ·have hno : listV one least (st,odd) = ([],(⟨[],true⟩,odd)) := by
    unfold listV
    rw [if_neg (fun h => by have := h.2; simp only at this; rw [Int.natCast_ediv] at this; omega)]
   rw [hno]
   repeat (first | refine zF ?_ | refine zR ?_ | refine zE ?_ | refine zK rfl rfl rfl ?_ | refine zJ rfl ?_)
   refine hold_loop (fun m g L => ∃ (s : RS) (h2 R : Hp),s.wf ∧ m = s.left.length + (if s.bad = true then 0 else 1) ∧ s.left.length ≤ 1000000000000 ∧ g = [(0,.pointer (some ⟨b,0,none⟩))] ∧ RdrAt w0 D b s h2 ∧ L = D + C odd + h2 + fr + R) _ _
    ⟨intS st,h1,0,takeS_wf _ _,rfl,hl1,rfl,hr1,by simp only [yB]; ac_rfl⟩ (by repeat (first | exact zT _ | refine zO rfl ?_)) ?_
   rintro m g L ⟨s,h2,R,hwf,rfl,hsl,rfl,hrs,rfl⟩
   repeat (first | refine zF ?_ | refine zB ?_ | refine zK rfl rfl rfl ?_)
   refine zY rfl rfl (zQ rfl rfl rfl) (bad02_spec w0 D b s h2 hrs) ?_
   rintro _ _ ⟨rfl,rfl⟩
   cases hb : s.bad
   ·repeat (first | refine zR ?_ | refine zB ?_ | refine zE ?_ | refine zK rfl rfl rfl ?_ | refine zP ?_ | refine zJ rfl ?_)
    refine zY rfl rfl (zQ rfl rfl rfl) (getInt_spec w0 D b s h2 hrs hsl) ?_
    rintro _ _ ⟨h3,rfl,hr3,rfl⟩
    repeat (refine zE ?_)
    refine ⟨_,_,?_,(by repeat (first | exact zT _ | refine zO rfl ?_)),intS s,h3,_,takeS_wf _ _,rfl,by have := takeS_len s 8; unfold intS; omega,rfl,hr3,yK.out⟩
    unfold intS takeS
    split
    ·rename_i ht
     have : (8 : Int) ≤ s.left.length := by simp [takeOk,hb] at ht; exact_mod_cast ht
     simp; omega
    ·simp
   ·have hs : s = ⟨[],true⟩ := by
     obtain ⟨l,bd⟩ := s
     simp only at hb
     subst hb
     obtain rfl : l = [] := hwf rfl
     rfl
    subst hs
    repeat (first | refine zF ?_ | refine yD ?_ | refine zB ?_ | refine zE ?_ | refine zK rfl rfl rfl ?_ | refine zM ?_ | refine zI rfl ?_)
    exact ⟨[_],D + C odd + 0 + h2 + 0,_,⟨rfl,trivial⟩,⟨0,h2,0,OwL.nil _ _,hrs,rfl⟩,by simp only [yB]; exact yK.out⟩
  ·obtain ⟨n,hn⟩ := Int.eq_ofNat_of_zero_le (show 0 ≤ intV st by omega)
   have hnl : n ≤ (intS st).left.length / least := by
    rw [hn] at n2
    have : ((intS st).left.length : Int) / (least : Int) = (((intS st).left.length / least : Nat) : Int) := (Int.natCast_ediv _ _).symm
    omega
   have hn12 : n ≤ 1000000000000 := Nat.le_trans hnl (Nat.le_trans (Nat.div_le_self _ _) hl1)
   have hyes : listV one least (st,odd) = manyS one n (intS st,odd) := by
    unfold listV
    rw [if_pos ⟨by simp only; omega,by simp only; rw [hn]; omega⟩]
    simp only [hn,Int.toNat_natCast]
   rw [hyes,hn]
   repeat (first | refine zF ?_ | refine zR ?_ | refine zB ?_ | refine zE ?_ | refine zK rfl rfl rfl ?_ | refine zP ?_ | refine zI rfl ?_)
   refine hold_count n (fun k g L => ∃ (vo : Value) (E h2 h3 R : Hp),g = [(2,.func (.func k0) #[] caps.toArray),(8,vo),(26,.int .i64 n),(27,.int .i64 k)] ∧ OwL w0 (D + E) (manyS one k (intS st,odd)).1 vo h3 ∧ RdrAt w0 D b (manyS one k (intS st,odd)).2.1 h2 ∧
     L = D + C (manyS one k (intS st,odd)).2.2 + E + h2 + h3 + fr + R) _
    ⟨.slice none 0 0,0,h1,0,0,rfl,OwL.nil _ _,hr1,by simp only [manyS,yB]; ac_rfl⟩ (by repeat (first | exact zT _ | refine zO rfl ?_)) ?_
   rintro k g L hk ⟨vo,E,h2,h3,R,rfl,ho,hr2,rfl⟩
   have hml := manyS_len hlen k (intS st,odd)
   have hmn := manyS_length one k (intS st,odd)
   repeat (first | refine zF ?_ | refine zB ?_)
   refine yG rfl rfl (pv_lss rfl rfl) (fun n3 => ?_) (fun n3 => ?_)
   ·repeat (first | refine zF ?_ | refine zR ?_ | refine zB ?_ | refine zE ?_ | refine zK rfl rfl rfl ?_ | refine zP ?_ | refine zJ rfl ?_)
    refine zY rfl rfl (zQ rfl rfl (by simp <;> rfl)) (hone (manyS one k (intS st,odd)).2 h2 (by simp only at hml; omega) hr2) ?_
    rintro _ _ ⟨e,E2,h4,rfl,he,hr4,rfl⟩
    obtain ⟨a9,c9,rfl,_⟩ := id he
    repeat (refine L_bs (vs := [_]) (cells := [_,_,_]) rfl rfl rfl rfl rfl rfl (fun _ => ?_))
    refine L_eff rfl rfl (ev_appendL (X := D + (E + E2)) (ns := [(one (manyS one k (intS st,odd)).2).1]) (h := h3) rfl rfl (ho.mono (R := E2) (by ac_rfl)) (rd_one rfl) (All2.one (Rep.mono (R := E) (by ac_rfl) he)) rfl rfl rfl rfl rfl (by rw [hmn]; simp only [List.length_singleton]; omega)) ?_
    rintro vo' _ ⟨h5,ho5,rfl⟩
    have e2 : (one (manyS one k (intS st,odd)).2).2 = (manyS one (k + 1) (intS st,odd)).2 := rfl
    rw [e2]
    repeat (first | refine zB ?_ | refine zE ?_ | refine zK rfl rfl rfl ?_ | refine L_add rfl rfl (by omega) (by omega) rfl rfl ?_)
    exact ⟨by omega,_,(by repeat (first | exact zT _ | refine zO rfl ?_)),vo',E + E2,h4,h5,_,rfl,ho5,hr4,yK.out⟩
   ·obtain rfl : k = n := by omega
    repeat (first | refine zF ?_ | refine yD ?_ | refine zB ?_ | refine zE ?_ | refine zK rfl rfl rfl ?_ | refine zM ?_ | refine zI rfl ?_)
    exact ⟨[_],D + C (manyS one k (intS st,odd)).2.2 + E + h2 + h3,_,⟨rfl,trivial⟩,⟨E,h2,h3,ho,hr2,rfl⟩,yK.out⟩
theorem listWr_spec (w0 : World) (D : Hp) (b : Nat) (C : Bool → Hp) (k0 : Nat) [hf : Fun Tryz.prog k0] (caps : List Value) (one : RS × Bool → Wr × (RS × Bool)) (least : Nat) (hleast : 1 ≤ least ∧ least ≤ 1000) (s : RS × Bool) (h : Hp) (hr : RdrAt w0 D b s.1 h) (hl : s.1.left.length ≤ 1000000000000)
  (hlen : ∀ s,(one s).2.1.left.length ≤ s.1.left.length)
  (hone : ∀ (s : RS × Bool) (h : Hp),s.1.left.length ≤ 1000000000000 → RdrAt w0 D b s.1 h → Spec Tryz.prog w0 k0 caps (D + C s.2 + h) (fun r h' => ∃ e E h2,r = .agg e.toArray ∧ Rep.rd w0 (D + E) (one s).1 e ∧ RdrAt w0 D b (one s).2.1 h2 ∧ D + C (one s).2.2 + E + h2 = h')) :
  Spec Tryz.prog w0 55 [.pointer (some ⟨b,0,none⟩),.int .i64 (least : Int),.func (.func k0) #[] caps.toArray] (D + C s.2 + h)
   (fun r h' => ∃ E h2 h3,OwL w0 (D + E) (listV one least s).1 r h3 ∧ RdrAt w0 D b (listV one least s).2.1 h2 ∧ D + C (listV one least s).2.2 + E + h2 + h3 = h') := by
 obtain ⟨st,odd⟩ := s
 change st.left.length ≤ _ at hl
 change RdrAt w0 D b st h at hr
 change Spec _ _ _ _ (D + C odd + h) _
 have hl1 : (intS st).left.length ≤ 1000000000000 := by have := takeS_len st 8; unfold intS; omega
 refine zN Tryz.func55 rfl Tryz.ntmps55 Tryz.results55 rfl fun fr => ?_
 repeat (first | refine zF ?_ | refine zB ?_ | refine zE ?_ | refine zK rfl rfl rfl ?_)
 refine zY rfl rfl (zQ rfl rfl rfl) (getInt_spec w0 D b st h hr hl) ?_
 rintro _ _ ⟨h1,rfl,hr1,rfl⟩
 repeat (first | refine zF ?_ | refine zB ?_ | refine zE ?_ | refine zK rfl rfl rfl ?_)
 refine yG rfl rfl (pv_lss rfl rfl) (fun n1 => ?_) (fun n1 => ?_)
 ·have hno : listV one least (st,odd) = ([],(⟨[],true⟩,odd)) := by unfold listV; rw [if_neg (fun h => by have := h.1; simp only at this; omega)]
  rw [hno]
  repeat (first | refine zF ?_ | refine zR ?_ | refine zE ?_ | refine zK rfl rfl rfl ?_ | refine L_skip rfl rfl ?_ | refine zJ rfl ?_)
  refine hold_loop (fun m g L => ∃ (s : RS) (h2 R : Hp),s.wf ∧ m = s.left.length + (if s.bad = true then 0 else 1) ∧ s.left.length ≤ 1000000000000 ∧ g = [(0,.pointer (some ⟨b,0,none⟩))] ∧ RdrAt w0 D b s h2 ∧ L = D + C odd + h2 + fr + R) _ _
   ⟨intS st,h1,0,takeS_wf _ _,rfl,hl1,rfl,hr1,by simp only [yB]; ac_rfl⟩ (by repeat (first | exact zT _ | refine zO rfl ?_)) ?_
  rintro m g L ⟨s,h2,R,hwf,rfl,hsl,rfl,hrs,rfl⟩
  repeat (first | refine zF ?_ | refine zB ?_ | refine zK rfl rfl rfl ?_)
  refine zY rfl rfl (zQ rfl rfl rfl) (bad02_spec w0 D b s h2 hrs) ?_
  rintro _ _ ⟨rfl,rfl⟩
  cases hb : s.bad
  ·repeat (first | refine zR ?_ | refine zB ?_ | refine zE ?_ | refine zK rfl rfl rfl ?_ | refine zP ?_ | refine zJ rfl ?_)
   refine zY rfl rfl (zQ rfl rfl rfl) (getInt_spec w0 D b s h2 hrs hsl) ?_
   rintro _ _ ⟨h3,rfl,hr3,rfl⟩
   repeat (refine zE ?_)
   refine ⟨_,_,?_,(by repeat (first | exact zT _ | refine zO rfl ?_)),intS s,h3,_,takeS_wf _ _,rfl,by have := takeS_len s 8; unfold intS; omega,rfl,hr3,yK.out⟩
   unfold intS takeS
   split
   ·rename_i ht
    have : (8 : Int) ≤ s.left.length := by simp [takeOk,hb] at ht; exact_mod_cast ht
    simp; omega
   ·simp
  ·have hs : s = ⟨[],true⟩ := by
    obtain ⟨l,bd⟩ := s
    simp only at hb
    subst hb
    obtain rfl : l = [] := hwf rfl
    rfl
   subst hs
   repeat (first | refine zF ?_ | refine yD ?_ | refine zB ?_ | refine zE ?_ | refine zK rfl rfl rfl ?_ | refine zM ?_ | refine zI rfl ?_)
   exact ⟨[_],D + C odd + 0 + h2 + 0,_,⟨rfl,trivial⟩,⟨0,h2,0,OwL.nil _ _,hrs,rfl⟩,by simp only [yB]; exact yK.out⟩
 ·repeat (refine zK rfl rfl rfl ?_)
  refine zY rfl rfl (zQ rfl rfl rfl) (left02_spec w0 D b (intS st) h1 hr1) ?_
  rintro _ _ ⟨rfl,rfl⟩
  repeat (refine zK rfl rfl rfl ?_)
  refine yH rfl rfl (pv_quo_nn rfl rfl (by omega) (by omega) (by omega)) ?_
  refine yG rfl rfl (pv_gtr rfl rfl) (fun n2 => ?_) (fun n2 => ?_)
  ·have hno : listV one least (st,odd) = ([],(⟨[],true⟩,odd)) := by
    unfold listV
    rw [if_neg (fun h => by have := h.2; simp only at this; rw [Int.natCast_ediv] at this; omega)]
   rw [hno]
   repeat (first | refine zF ?_ | refine zR ?_ | refine zE ?_ | refine zK rfl rfl rfl ?_ | refine zJ rfl ?_)
   refine hold_loop (fun m g L => ∃ (s : RS) (h2 R : Hp),s.wf ∧ m = s.left.length + (if s.bad = true then 0 else 1) ∧ s.left.length ≤ 1000000000000 ∧ g = [(0,.pointer (some ⟨b,0,none⟩))] ∧ RdrAt w0 D b s h2 ∧ L = D + C odd + h2 + fr + R) _ _
    ⟨intS st,h1,0,takeS_wf _ _,rfl,hl1,rfl,hr1,by simp only [yB]; ac_rfl⟩ (by repeat (first | exact zT _ | refine zO rfl ?_)) ?_
   rintro m g L ⟨s,h2,R,hwf,rfl,hsl,rfl,hrs,rfl⟩
   repeat (first | refine zF ?_ | refine zB ?_ | refine zK rfl rfl rfl ?_)
   refine zY rfl rfl (zQ rfl rfl rfl) (bad02_spec w0 D b s h2 hrs) ?_
   rintro _ _ ⟨rfl,rfl⟩
   cases hb : s.bad
   ·repeat (first | refine zR ?_ | refine zB ?_ | refine zE ?_ | refine zK rfl rfl rfl ?_ | refine zP ?_ | refine zJ rfl ?_)
    refine zY rfl rfl (zQ rfl rfl rfl) (getInt_spec w0 D b s h2 hrs hsl) ?_
    rintro _ _ ⟨h3,rfl,hr3,rfl⟩
    repeat (refine zE ?_)
    refine ⟨_,_,?_,(by repeat (first | exact zT _ | refine zO rfl ?_)),intS s,h3,_,takeS_wf _ _,rfl,by have := takeS_len s 8; unfold intS; omega,rfl,hr3,yK.out⟩
    unfold intS takeS
    split
    ·rename_i ht
     have : (8 : Int) ≤ s.left.length := by simp [takeOk,hb] at ht; exact_mod_cast ht
     simp; omega
    ·simp
   ·have hs : s = ⟨[],true⟩ := by
     obtain ⟨l,bd⟩ := s
     simp only at hb
     subst hb
     obtain rfl : l = [] := hwf rfl
     rfl
    subst hs
    repeat (first | refine zF ?_ | refine yD ?_ | refine zB ?_ | refine zE ?_ | refine zK rfl rfl rfl ?_ | refine zM ?_ | refine zI rfl ?_)
    exact ⟨[_],D + C odd + 0 + h2 + 0,_,⟨rfl,trivial⟩,⟨0,h2,0,OwL.nil _ _,hrs,rfl⟩,by simp only [yB]; exact yK.out⟩
  ·obtain ⟨n,hn⟩ := Int.eq_ofNat_of_zero_le (show 0 ≤ intV st by omega)
   have hnl : n ≤ (intS st).left.length / least := by
    rw [hn] at n2
    have : ((intS st).left.length : Int) / (least : Int) = (((intS st).left.length / least : Nat) : Int) := (Int.natCast_ediv _ _).symm
    omega
   have hn12 : n ≤ 1000000000000 := Nat.le_trans hnl (Nat.le_trans (Nat.div_le_self _ _) hl1)
   have hyes : listV one least (st,odd) = manyS one n (intS st,odd) := by
    unfold listV
    rw [if_pos ⟨by simp only; omega,by simp only; rw [hn]; omega⟩]
    simp only [hn,Int.toNat_natCast]
   rw [hyes,hn]
   repeat (first | refine zF ?_ | refine zR ?_ | refine zB ?_ | refine zE ?_ | refine zK rfl rfl rfl ?_ | refine zP ?_ | refine zI rfl ?_)
   refine hold_count n (fun k g L => ∃ (vo : Value) (E h2 h3 R : Hp),g = [(2,.func (.func k0) #[] caps.toArray),(8,vo),(26,.int .i64 n),(27,.int .i64 k)] ∧ OwL w0 (D + E) (manyS one k (intS st,odd)).1 vo h3 ∧ RdrAt w0 D b (manyS one k (intS st,odd)).2.1 h2 ∧
     L = D + C (manyS one k (intS st,odd)).2.2 + E + h2 + h3 + fr + R) _
    ⟨.slice none 0 0,0,h1,0,0,rfl,OwL.nil _ _,hr1,by simp only [manyS,yB]; ac_rfl⟩ (by repeat (first | exact zT _ | refine zO rfl ?_)) ?_
   rintro k g L hk ⟨vo,E,h2,h3,R,rfl,ho,hr2,rfl⟩
   have hml := manyS_len hlen k (intS st,odd)
   have hmn := manyS_length one k (intS st,odd)
   repeat (first | refine zF ?_ | refine zB ?_)
   refine yG rfl rfl (pv_lss rfl rfl) (fun n3 => ?_) (fun n3 => ?_)
   ·repeat (first | refine zF ?_ | refine zR ?_ | refine zB ?_ | refine zE ?_ | refine zK rfl rfl rfl ?_ | refine zP ?_ | refine zJ rfl ?_)
    refine zY rfl rfl (zQ rfl rfl (by simp <;> rfl)) (hone (manyS one k (intS st,odd)).2 h2 (by simp only at hml; omega) hr2) ?_
    rintro _ _ ⟨e,E2,h4,rfl,he,hr4,rfl⟩
    obtain ⟨a9,c9,rfl,_⟩ := id he
    repeat (refine L_bs (vs := [_]) (cells := [_,_]) rfl rfl rfl rfl rfl rfl (fun _ => ?_))
    refine L_eff rfl rfl (ev_appendL (X := D + (E + E2)) (ns := [(one (manyS one k (intS st,odd)).2).1]) (h := h3) rfl rfl (ho.mono (R := E2) (by ac_rfl)) (rd_one rfl) (All2.one (Rep.mono (R := E) (by ac_rfl) he)) rfl rfl rfl rfl rfl (by rw [hmn]; simp only [List.length_singleton]; omega)) ?_
    rintro vo' _ ⟨h5,ho5,rfl⟩
    have e2 : (one (manyS one k (intS st,odd)).2).2 = (manyS one (k + 1) (intS st,odd)).2 := rfl
    rw [e2]
    repeat (first | refine zB ?_ | refine zE ?_ | refine zK rfl rfl rfl ?_ | refine L_add rfl rfl (by omega) (by omega) rfl rfl ?_)
    exact ⟨by omega,_,(by repeat (first | exact zT _ | refine zO rfl ?_)),vo',E + E2,h4,h5,_,rfl,ho5,hr4,yK.out⟩
   ·obtain rfl : k = n := by omega
    repeat (first | refine zF ?_ | refine yD ?_ | refine zB ?_ | refine zE ?_ | refine zK rfl rfl rfl ?_ | refine zM ?_ | refine zI rfl ?_)
    exact ⟨[_],D + C (manyS one k (intS st,odd)).2.2 + E + h2 + h3,_,⟨rfl,trivial⟩,⟨E,h2,h3,ho,hr2,rfl⟩,yK.out⟩
theorem listOut_spec (w0 : World) (D : Hp) (b : Nat) (C : Bool → Hp) (k0 : Nat) [hf : Fun Tryz.prog k0] (caps : List Value) (one : RS × Bool → Outp × (RS × Bool)) (least : Nat) (hleast : 1 ≤ least ∧ least ≤ 1000) (s : RS × Bool) (h : Hp) (hr : RdrAt w0 D b s.1 h) (hl : s.1.left.length ≤ 1000000000000)
  (hlen : ∀ s,(one s).2.1.left.length ≤ s.1.left.length)
  (hone : ∀ (s : RS × Bool) (h : Hp),s.1.left.length ≤ 1000000000000 → RdrAt w0 D b s.1 h → Spec Tryz.prog w0 k0 caps (D + C s.2 + h) (fun r h' => ∃ e E h2,r = .agg e.toArray ∧ Rep.rd w0 (D + E) (one s).1 e ∧ RdrAt w0 D b (one s).2.1 h2 ∧ D + C (one s).2.2 + E + h2 = h')) :
  Spec Tryz.prog w0 58 [.pointer (some ⟨b,0,none⟩),.int .i64 (least : Int),.func (.func k0) #[] caps.toArray] (D + C s.2 + h)
   (fun r h' => ∃ E h2 h3,OwL w0 (D + E) (listV one least s).1 r h3 ∧ RdrAt w0 D b (listV one least s).2.1 h2 ∧ D + C (listV one least s).2.2 + E + h2 + h3 = h') := by
 obtain ⟨st,odd⟩ := s
 change st.left.length ≤ _ at hl
 change RdrAt w0 D b st h at hr
 change Spec _ _ _ _ (D + C odd + h) _
 have hl1 : (intS st).left.length ≤ 1000000000000 := by have := takeS_len st 8; unfold intS; omega
 refine zN Tryz.func58 rfl Tryz.ntmps58 Tryz.results58 rfl fun fr => ?_
 repeat (first | refine zF ?_ | refine zB ?_ | refine zE ?_ | refine zK rfl rfl rfl ?_)
 refine zY rfl rfl (zQ rfl rfl rfl) (getInt_spec w0 D b st h hr hl) ?_
 rintro _ _ ⟨h1,rfl,hr1,rfl⟩
 repeat (first | refine zF ?_ | refine zB ?_ | refine zE ?_ | refine zK rfl rfl rfl ?_)
 refine yG rfl rfl (pv_lss rfl rfl) (fun n1 => ?_) (fun n1 => ?_)
 ·have hno : listV one least (st,odd) = ([],(⟨[],true⟩,odd)) := by unfold listV; rw [if_neg (fun h => by have := h.1; simp only at this; omega)]
  rw [hno]
  repeat (first | refine zF ?_ | refine zR ?_ | refine zE ?_ | refine zK rfl rfl rfl ?_ | refine L_skip rfl rfl ?_ | refine zJ rfl ?_)
  refine hold_loop (fun m g L => ∃ (s : RS) (h2 R : Hp),s.wf ∧ m = s.left.length + (if s.bad = true then 0 else 1) ∧ s.left.length ≤ 1000000000000 ∧ g = [(0,.pointer (some ⟨b,0,none⟩))] ∧ RdrAt w0 D b s h2 ∧ L = D + C odd + h2 + fr + R) _ _
   ⟨intS st,h1,0,takeS_wf _ _,rfl,hl1,rfl,hr1,by simp only [yB]; ac_rfl⟩ (by repeat (first | exact zT _ | refine zO rfl ?_)) ?_
  rintro m g L ⟨s,h2,R,hwf,rfl,hsl,rfl,hrs,rfl⟩
  repeat (first | refine zF ?_ | refine zB ?_ | refine zK rfl rfl rfl ?_)
  refine zY rfl rfl (zQ rfl rfl rfl) (bad02_spec w0 D b s h2 hrs) ?_
  rintro _ _ ⟨rfl,rfl⟩
  cases hb : s.bad
  ·repeat (first | refine zR ?_ | refine zB ?_ | refine zE ?_ | refine zK rfl rfl rfl ?_ | refine zP ?_ | refine zJ rfl ?_)
   refine zY rfl rfl (zQ rfl rfl rfl) (getInt_spec w0 D b s h2 hrs hsl) ?_
   rintro _ _ ⟨h3,rfl,hr3,rfl⟩
   repeat (refine zE ?_)
   refine ⟨_,_,?_,(by repeat (first | exact zT _ | refine zO rfl ?_)),intS s,h3,_,takeS_wf _ _,rfl,by have := takeS_len s 8; unfold intS; omega,rfl,hr3,yK.out⟩
   unfold intS takeS
   split
   ·rename_i ht
    have : (8 : Int) ≤ s.left.length := by simp [takeOk,hb] at ht; exact_mod_cast ht
    simp; omega
   ·simp
  ·have hs : s = ⟨[],true⟩ := by
    obtain ⟨l,bd⟩ := s
    simp only at hb
    subst hb
    obtain rfl : l = [] := hwf rfl
    rfl
   subst hs
   repeat (first | refine zF ?_ | refine yD ?_ | refine zB ?_ | refine zE ?_ | refine zK rfl rfl rfl ?_ | refine zM ?_ | refine zI rfl ?_)
   exact ⟨[_],D + C odd + 0 + h2 + 0,_,⟨rfl,trivial⟩,⟨0,h2,0,OwL.nil _ _,hrs,rfl⟩,by simp only [yB]; exact yK.out⟩
 ·repeat (refine zK rfl rfl rfl ?_)
  refine zY rfl rfl (zQ rfl rfl rfl) (left02_spec w0 D b (intS st) h1 hr1) ?_
  rintro _ _ ⟨rfl,rfl⟩
  repeat (refine zK rfl rfl rfl ?_)
  refine yH rfl rfl (pv_quo_nn rfl rfl (by omega) (by omega) (by omega)) ?_
  refine yG rfl rfl (pv_gtr rfl rfl) (fun n2 => ?_) (fun n2 => ?_)
  ·have hno : listV one least (st,odd) = ([],(⟨[],true⟩,odd)) := by
    unfold listV
    rw [if_neg (fun h => by have := h.2; simp only at this; rw [Int.natCast_ediv] at this; omega)]
   rw [hno]
   repeat (first | refine zF ?_ | refine zR ?_ | refine zE ?_ | refine zK rfl rfl rfl ?_ | refine zJ rfl ?_)
   refine hold_loop (fun m g L => ∃ (s : RS) (h2 R : Hp),s.wf ∧ m = s.left.length + (if s.bad = true then 0 else 1) ∧ s.left.length ≤ 1000000000000 ∧ g = [(0,.pointer (some ⟨b,0,none⟩))] ∧ RdrAt w0 D b s h2 ∧ L = D + C odd + h2 + fr + R) _ _
    ⟨intS st,h1,0,takeS_wf _ _,rfl,hl1,rfl,hr1,by simp only [yB]; ac_rfl⟩ (by repeat (first | exact zT _ | refine zO rfl ?_)) ?_
   rintro m g L ⟨s,h2,R,hwf,rfl,hsl,rfl,hrs,rfl⟩
   repeat (first | refine zF ?_ | refine zB ?_ | refine zK rfl rfl rfl ?_)
   refine zY rfl rfl (zQ rfl rfl rfl) (bad02_spec w0 D b s h2 hrs) ?_
   rintro _ _ ⟨rfl,rfl⟩
   cases hb : s.bad
   ·repeat (first | refine zR ?_ | refine zB ?_ | refine zE ?_ | refine zK rfl rfl rfl ?_ | refine zP ?_ | refine zJ rfl ?_)
    refine zY rfl rfl (zQ rfl rfl rfl) (getInt_spec w0 D b s h2 hrs hsl) ?_
    rintro _ _ ⟨h3,rfl,hr3,rfl⟩
    repeat (refine zE ?_)
    refine ⟨_,_,?_,(by repeat (first | exact zT _ | refine zO rfl ?_)),intS s,h3,_,takeS_wf _ _,rfl,by have := takeS_len s 8; unfold intS; omega,rfl,hr3,yK.out⟩
    unfold intS takeS
    split
    ·rename_i ht
     have : (8 : Int) ≤ s.left.length := by simp [takeOk,hb] at ht; exact_mod_cast ht
     simp; omega
    ·simp
   ·have hs : s = ⟨[],true⟩ := by
     obtain ⟨l,bd⟩ := s
     simp only at hb
     subst hb
     obtain rfl : l = [] := hwf rfl
     rfl
    subst hs
    repeat (first | refine zF ?_ | refine yD ?_ | refine zB ?_ | refine zE ?_ | refine zK rfl rfl rfl ?_ | refine zM ?_ | refine zI rfl ?_)
    exact ⟨[_],D + C odd + 0 + h2 + 0,_,⟨rfl,trivial⟩,⟨0,h2,0,OwL.nil _ _,hrs,rfl⟩,by simp only [yB]; exact yK.out⟩
  ·obtain ⟨n,hn⟩ := Int.eq_ofNat_of_zero_le (show 0 ≤ intV st by omega)
   have hnl : n ≤ (intS st).left.length / least := by
    rw [hn] at n2
    have : ((intS st).left.length : Int) / (least : Int) = (((intS st).left.length / least : Nat) : Int) := (Int.natCast_ediv _ _).symm
    omega
   have hn12 : n ≤ 1000000000000 := Nat.le_trans hnl (Nat.le_trans (Nat.div_le_self _ _) hl1)
   have hyes : listV one least (st,odd) = manyS one n (intS st,odd) := by
    unfold listV
    rw [if_pos ⟨by simp only; omega,by simp only; rw [hn]; omega⟩]
    simp only [hn,Int.toNat_natCast]
   rw [hyes,hn]
   repeat (first | refine zF ?_ | refine zR ?_ | refine zB ?_ | refine zE ?_ | refine zK rfl rfl rfl ?_ | refine zP ?_ | refine zI rfl ?_)
   refine hold_count n (fun k g L => ∃ (vo : Value) (E h2 h3 R : Hp),g = [(2,.func (.func k0) #[] caps.toArray),(8,vo),(26,.int .i64 n),(27,.int .i64 k)] ∧ OwL w0 (D + E) (manyS one k (intS st,odd)).1 vo h3 ∧ RdrAt w0 D b (manyS one k (intS st,odd)).2.1 h2 ∧
     L = D + C (manyS one k (intS st,odd)).2.2 + E + h2 + h3 + fr + R) _
    ⟨.slice none 0 0,0,h1,0,0,rfl,OwL.nil _ _,hr1,by simp only [manyS,yB]; ac_rfl⟩ (by repeat (first | exact zT _ | refine zO rfl ?_)) ?_
   rintro k g L hk ⟨vo,E,h2,h3,R,rfl,ho,hr2,rfl⟩
   have hml := manyS_len hlen k (intS st,odd)
   have hmn := manyS_length one k (intS st,odd)
   repeat (first | refine zF ?_ | refine zB ?_)
   refine yG rfl rfl (pv_lss rfl rfl) (fun n3 => ?_) (fun n3 => ?_)
   ·repeat (first | refine zF ?_ | refine zR ?_ | refine zB ?_ | refine zE ?_ | refine zK rfl rfl rfl ?_ | refine zP ?_ | refine zJ rfl ?_)
    refine zY rfl rfl (zQ rfl rfl (by simp <;> rfl)) (hone (manyS one k (intS st,odd)).2 h2 (by simp only at hml; omega) hr2) ?_
    rintro _ _ ⟨e,E2,h4,rfl,he,hr4,rfl⟩
    obtain ⟨a9,c9,rfl,_⟩ := id he
    repeat (refine L_bs (vs := [_]) (cells := [_,_,_,_]) rfl rfl rfl rfl rfl rfl (fun _ => ?_))
    refine L_eff rfl rfl (ev_appendL (X := D + (E + E2)) (ns := [(one (manyS one k (intS st,odd)).2).1]) (h := h3) rfl rfl (ho.mono (R := E2) (by ac_rfl)) (rd_one rfl) (All2.one (Rep.mono (R := E) (by ac_rfl) he)) rfl rfl rfl rfl rfl (by rw [hmn]; simp only [List.length_singleton]; omega)) ?_
    rintro vo' _ ⟨h5,ho5,rfl⟩
    have e2 : (one (manyS one k (intS st,odd)).2).2 = (manyS one (k + 1) (intS st,odd)).2 := rfl
    rw [e2]
    repeat (first | refine zB ?_ | refine zE ?_ | refine zK rfl rfl rfl ?_ | refine L_add rfl rfl (by omega) (by omega) rfl rfl ?_)
    exact ⟨by omega,_,(by repeat (first | exact zT _ | refine zO rfl ?_)),vo',E + E2,h4,h5,_,rfl,ho5,hr4,yK.out⟩
   ·obtain rfl : k = n := by omega
    repeat (first | refine zF ?_ | refine yD ?_ | refine zB ?_ | refine zE ?_ | refine zK rfl rfl rfl ?_ | refine zM ?_ | refine zI rfl ?_)
    exact ⟨[_],D + C (manyS one k (intS st,odd)).2.2 + E + h2 + h3,_,⟨rfl,trivial⟩,⟨E,h2,h3,ho,hr2,rfl⟩,yK.out⟩
theorem listSes_spec (w0 : World) (D : Hp) (b : Nat) (C : Bool → Hp) (k0 : Nat) [hf : Fun Tryz.prog k0] (caps : List Value) (one : RS × Bool → Ses × (RS × Bool)) (least : Nat) (hleast : 1 ≤ least ∧ least ≤ 1000) (s : RS × Bool) (h : Hp) (hr : RdrAt w0 D b s.1 h) (hl : s.1.left.length ≤ 1000000000000)
  (hlen : ∀ s,(one s).2.1.left.length ≤ s.1.left.length)
  (hone : ∀ (s : RS × Bool) (h : Hp),s.1.left.length ≤ 1000000000000 → RdrAt w0 D b s.1 h → Spec Tryz.prog w0 k0 caps (D + C s.2 + h) (fun r h' => ∃ e E h2,r = .agg e.toArray ∧ Rep.rd w0 (D + E) (one s).1 e ∧ RdrAt w0 D b (one s).2.1 h2 ∧ D + C (one s).2.2 + E + h2 = h')) :
  Spec Tryz.prog w0 60 [.pointer (some ⟨b,0,none⟩),.int .i64 (least : Int),.func (.func k0) #[] caps.toArray] (D + C s.2 + h)
   (fun r h' => ∃ E h2 h3,OwL w0 (D + E) (listV one least s).1 r h3 ∧ RdrAt w0 D b (listV one least s).2.1 h2 ∧ D + C (listV one least s).2.2 + E + h2 + h3 = h') := by
 obtain ⟨st,odd⟩ := s
 change st.left.length ≤ _ at hl
 change RdrAt w0 D b st h at hr
 change Spec _ _ _ _ (D + C odd + h) _
 have hl1 : (intS st).left.length ≤ 1000000000000 := by have := takeS_len st 8; unfold intS; omega
 refine zN Tryz.func60 rfl Tryz.ntmps60 Tryz.results60 rfl fun fr => ?_
 repeat (first | refine zF ?_ | refine zB ?_ | refine zE ?_ | refine zK rfl rfl rfl ?_)
 refine zY rfl rfl (zQ rfl rfl rfl) (getInt_spec w0 D b st h hr hl) ?_
 rintro _ _ ⟨h1,rfl,hr1,rfl⟩
 repeat (first | refine zF ?_ | refine zB ?_ | refine zE ?_ | refine zK rfl rfl rfl ?_)
 refine yG rfl rfl (pv_lss rfl rfl) (fun n1 => ?_) (fun n1 => ?_)
 ·have hno : listV one least (st,odd) = ([],(⟨[],true⟩,odd)) := by unfold listV; rw [if_neg (fun h => by have := h.1; simp only at this; omega)]
  rw [hno]
  repeat (first | refine zF ?_ | refine zR ?_ | refine zE ?_ | refine zK rfl rfl rfl ?_ | refine L_skip rfl rfl ?_ | refine zJ rfl ?_)
  refine hold_loop (fun m g L => ∃ (s : RS) (h2 R : Hp),s.wf ∧ m = s.left.length + (if s.bad = true then 0 else 1) ∧ s.left.length ≤ 1000000000000 ∧ g = [(0,.pointer (some ⟨b,0,none⟩))] ∧ RdrAt w0 D b s h2 ∧ L = D + C odd + h2 + fr + R) _ _
   ⟨intS st,h1,0,takeS_wf _ _,rfl,hl1,rfl,hr1,by simp only [yB]; ac_rfl⟩ (by repeat (first | exact zT _ | refine zO rfl ?_)) ?_
  rintro m g L ⟨s,h2,R,hwf,rfl,hsl,rfl,hrs,rfl⟩
  repeat (first | refine zF ?_ | refine zB ?_ | refine zK rfl rfl rfl ?_)
  refine zY rfl rfl (zQ rfl rfl rfl) (bad02_spec w0 D b s h2 hrs) ?_
  rintro _ _ ⟨rfl,rfl⟩
  cases hb : s.bad
  ·repeat (first | refine zR ?_ | refine zB ?_ | refine zE ?_ | refine zK rfl rfl rfl ?_ | refine zP ?_ | refine zJ rfl ?_)
   refine zY rfl rfl (zQ rfl rfl rfl) (getInt_spec w0 D b s h2 hrs hsl) ?_
   rintro _ _ ⟨h3,rfl,hr3,rfl⟩
   repeat (refine zE ?_)
   refine ⟨_,_,?_,(by repeat (first | exact zT _ | refine zO rfl ?_)),intS s,h3,_,takeS_wf _ _,rfl,by have := takeS_len s 8; unfold intS; omega,rfl,hr3,yK.out⟩
   unfold intS takeS
   split
   ·rename_i ht
    have : (8 : Int) ≤ s.left.length := by simp [takeOk,hb] at ht; exact_mod_cast ht
    simp; omega
   ·simp
  ·have hs : s = ⟨[],true⟩ := by
    obtain ⟨l,bd⟩ := s
    simp only at hb
    subst hb
    obtain rfl : l = [] := hwf rfl
    rfl
   subst hs
   repeat (first | refine zF ?_ | refine yD ?_ | refine zB ?_ | refine zE ?_ | refine zK rfl rfl rfl ?_ | refine zM ?_ | refine zI rfl ?_)
   exact ⟨[_],D + C odd + 0 + h2 + 0,_,⟨rfl,trivial⟩,⟨0,h2,0,OwL.nil _ _,hrs,rfl⟩,by simp only [yB]; exact yK.out⟩
 ·repeat (refine zK rfl rfl rfl ?_)
  refine zY rfl rfl (zQ rfl rfl rfl) (left02_spec w0 D b (intS st) h1 hr1) ?_
  rintro _ _ ⟨rfl,rfl⟩
  repeat (refine zK rfl rfl rfl ?_)
  refine yH rfl rfl (pv_quo_nn rfl rfl (by omega) (by omega) (by omega)) ?_
  refine yG rfl rfl (pv_gtr rfl rfl) (fun n2 => ?_) (fun n2 => ?_)
  ·have hno : listV one least (st,odd) = ([],(⟨[],true⟩,odd)) := by
    unfold listV
    rw [if_neg (fun h => by have := h.2; simp only at this; rw [Int.natCast_ediv] at this; omega)]
   rw [hno]
   repeat (first | refine zF ?_ | refine zR ?_ | refine zE ?_ | refine zK rfl rfl rfl ?_ | refine zJ rfl ?_)
   refine hold_loop (fun m g L => ∃ (s : RS) (h2 R : Hp),s.wf ∧ m = s.left.length + (if s.bad = true then 0 else 1) ∧ s.left.length ≤ 1000000000000 ∧ g = [(0,.pointer (some ⟨b,0,none⟩))] ∧ RdrAt w0 D b s h2 ∧ L = D + C odd + h2 + fr + R) _ _
    ⟨intS st,h1,0,takeS_wf _ _,rfl,hl1,rfl,hr1,by simp only [yB]; ac_rfl⟩ (by repeat (first | exact zT _ | refine zO rfl ?_)) ?_
   rintro m g L ⟨s,h2,R,hwf,rfl,hsl,rfl,hrs,rfl⟩
   repeat (first | refine zF ?_ | refine zB ?_ | refine zK rfl rfl rfl ?_)
   refine zY rfl rfl (zQ rfl rfl rfl) (bad02_spec w0 D b s h2 hrs) ?_
   rintro _ _ ⟨rfl,rfl⟩
   cases hb : s.bad
   ·repeat (first | refine zR ?_ | refine zB ?_ | refine zE ?_ | refine zK rfl rfl rfl ?_ | refine zP ?_ | refine zJ rfl ?_)
    refine zY rfl rfl (zQ rfl rfl rfl) (getInt_spec w0 D b s h2 hrs hsl) ?_
    rintro _ _ ⟨h3,rfl,hr3,rfl⟩
    repeat (refine zE ?_)
    refine ⟨_,_,?_,(by repeat (first | exact zT _ | refine zO rfl ?_)),intS s,h3,_,takeS_wf _ _,rfl,by have := takeS_len s 8; unfold intS; omega,rfl,hr3,yK.out⟩
    unfold intS takeS
    split
    ·rename_i ht
     have : (8 : Int) ≤ s.left.length := by simp [takeOk,hb] at ht; exact_mod_cast ht
     simp; omega
    ·simp
   ·have hs : s = ⟨[],true⟩ := by
     obtain ⟨l,bd⟩ := s
     simp only at hb
     subst hb
     obtain rfl : l = [] := hwf rfl
     rfl
    subst hs
    repeat (first | refine zF ?_ | refine yD ?_ | refine zB ?_ | refine zE ?_ | refine zK rfl rfl rfl ?_ | refine zM ?_ | refine zI rfl ?_)
    exact ⟨[_],D + C odd + 0 + h2 + 0,_,⟨rfl,trivial⟩,⟨0,h2,0,OwL.nil _ _,hrs,rfl⟩,by simp only [yB]; exact yK.out⟩
  ·obtain ⟨n,hn⟩ := Int.eq_ofNat_of_zero_le (show 0 ≤ intV st by omega)
   have hnl : n ≤ (intS st).left.length / least := by
    rw [hn] at n2
    have : ((intS st).left.length : Int) / (least : Int) = (((intS st).left.length / least : Nat) : Int) := (Int.natCast_ediv _ _).symm
    omega
   have hn12 : n ≤ 1000000000000 := Nat.le_trans hnl (Nat.le_trans (Nat.div_le_self _ _) hl1)
   have hyes : listV one least (st,odd) = manyS one n (intS st,odd) := by
    unfold listV
    rw [if_pos ⟨by simp only; omega,by simp only; rw [hn]; omega⟩]
    simp only [hn,Int.toNat_natCast]
   rw [hyes,hn]
   repeat (first | refine zF ?_ | refine zR ?_ | refine zB ?_ | refine zE ?_ | refine zK rfl rfl rfl ?_ | refine zP ?_ | refine zI rfl ?_)
   refine hold_count n (fun k g L => ∃ (vo : Value) (E h2 h3 R : Hp),g = [(2,.func (.func k0) #[] caps.toArray),(8,vo),(26,.int .i64 n),(27,.int .i64 k)] ∧ OwL w0 (D + E) (manyS one k (intS st,odd)).1 vo h3 ∧ RdrAt w0 D b (manyS one k (intS st,odd)).2.1 h2 ∧
     L = D + C (manyS one k (intS st,odd)).2.2 + E + h2 + h3 + fr + R) _
    ⟨.slice none 0 0,0,h1,0,0,rfl,OwL.nil _ _,hr1,by simp only [manyS,yB]; ac_rfl⟩ (by repeat (first | exact zT _ | refine zO rfl ?_)) ?_
   rintro k g L hk ⟨vo,E,h2,h3,R,rfl,ho,hr2,rfl⟩
   have hml := manyS_len hlen k (intS st,odd)
   have hmn := manyS_length one k (intS st,odd)
   repeat (first | refine zF ?_ | refine zB ?_)
   refine yG rfl rfl (pv_lss rfl rfl) (fun n3 => ?_) (fun n3 => ?_)
   ·repeat (first | refine zF ?_ | refine zR ?_ | refine zB ?_ | refine zE ?_ | refine zK rfl rfl rfl ?_ | refine zP ?_ | refine zJ rfl ?_)
    refine zY rfl rfl (zQ rfl rfl (by simp <;> rfl)) (hone (manyS one k (intS st,odd)).2 h2 (by simp only at hml; omega) hr2) ?_
    rintro _ _ ⟨e,E2,h4,rfl,he,hr4,rfl⟩
    obtain ⟨a9,c9,rfl,_⟩ := id he
    repeat (refine L_bs (vs := [_]) (cells := [_,_,_,_]) rfl rfl rfl rfl rfl rfl (fun _ => ?_))
    refine L_eff rfl rfl (ev_appendL (X := D + (E + E2)) (ns := [(one (manyS one k (intS st,odd)).2).1]) (h := h3) rfl rfl (ho.mono (R := E2) (by ac_rfl)) (rd_one rfl) (All2.one (Rep.mono (R := E) (by ac_rfl) he)) rfl rfl rfl rfl rfl (by rw [hmn]; simp only [List.length_singleton]; omega)) ?_
    rintro vo' _ ⟨h5,ho5,rfl⟩
    have e2 : (one (manyS one k (intS st,odd)).2).2 = (manyS one (k + 1) (intS st,odd)).2 := rfl
    rw [e2]
    repeat (first | refine zB ?_ | refine zE ?_ | refine zK rfl rfl rfl ?_ | refine L_add rfl rfl (by omega) (by omega) rfl rfl ?_)
    exact ⟨by omega,_,(by repeat (first | exact zT _ | refine zO rfl ?_)),vo',E + E2,h4,h5,_,rfl,ho5,hr4,yK.out⟩
   ·obtain rfl : k = n := by omega
    repeat (first | refine zF ?_ | refine yD ?_ | refine zB ?_ | refine zE ?_ | refine zK rfl rfl rfl ?_ | refine zM ?_ | refine zI rfl ?_)
    exact ⟨[_],D + C (manyS one k (intS st,odd)).2.2 + E + h2 + h3,_,⟨rfl,trivial⟩,⟨E,h2,h3,ho,hr2,rfl⟩,yK.out⟩
theorem listPrp_spec (w0 : World) (D : Hp) (b : Nat) (C : Bool → Hp) (k0 : Nat) [hf : Fun Tryz.prog k0] (caps : List Value) (one : RS × Bool → Prp × (RS × Bool)) (least : Nat) (hleast : 1 ≤ least ∧ least ≤ 1000) (s : RS × Bool) (h : Hp) (hr : RdrAt w0 D b s.1 h) (hl : s.1.left.length ≤ 1000000000000)
  (hlen : ∀ s,(one s).2.1.left.length ≤ s.1.left.length)
  (hone : ∀ (s : RS × Bool) (h : Hp),s.1.left.length ≤ 1000000000000 → RdrAt w0 D b s.1 h → Spec Tryz.prog w0 k0 caps (D + C s.2 + h) (fun r h' => ∃ e E h2,r = .agg e.toArray ∧ Rep.rd w0 (D + E) (one s).1 e ∧ RdrAt w0 D b (one s).2.1 h2 ∧ D + C (one s).2.2 + E + h2 = h')) :
  Spec Tryz.prog w0 52 [.pointer (some ⟨b,0,none⟩),.int .i64 (least : Int),.func (.func k0) #[] caps.toArray] (D + C s.2 + h)
   (fun r h' => ∃ E h2 h3,OwL w0 (D + E) (listV one least s).1 r h3 ∧ RdrAt w0 D b (listV one least s).2.1 h2 ∧ D + C (listV one least s).2.2 + E + h2 + h3 = h') := by
 obtain ⟨st,odd⟩ := s
 change st.left.length ≤ _ at hl
 change RdrAt w0 D b st h at hr
 change Spec _ _ _ _ (D + C odd + h) _
 have hl1 : (intS st).left.length ≤ 1000000000000 := by have := takeS_len st 8; unfold intS; omega
 refine zN Tryz.func52 rfl Tryz.ntmps52 Tryz.results52 rfl fun fr => ?_
 repeat (first | refine zF ?_ | refine zB ?_ | refine zE ?_ | refine zK rfl rfl rfl ?_)
 refine zY rfl rfl (zQ rfl rfl rfl) (getInt_spec w0 D b st h hr hl) ?_
 rintro _ _ ⟨h1,rfl,hr1,rfl⟩
 repeat (first | refine zF ?_ | refine zB ?_ | refine zE ?_ | refine zK rfl rfl rfl ?_)
 refine yG rfl rfl (pv_lss rfl rfl) (fun n1 => ?_) (fun n1 => ?_)
 ·have hno : listV one least (st,odd) = ([],(⟨[],true⟩,odd)) := by unfold listV; rw [if_neg (fun h => by have := h.1; simp only at this; omega)]
  rw [hno]
  repeat (first | refine zF ?_ | refine zR ?_ | refine zE ?_ | refine zK rfl rfl rfl ?_ | refine L_skip rfl rfl ?_ | refine zJ rfl ?_)
  refine hold_loop (fun m g L => ∃ (s : RS) (h2 R : Hp),s.wf ∧ m = s.left.length + (if s.bad = true then 0 else 1) ∧ s.left.length ≤ 1000000000000 ∧ g = [(0,.pointer (some ⟨b,0,none⟩))] ∧ RdrAt w0 D b s h2 ∧ L = D + C odd + h2 + fr + R) _ _
   ⟨intS st,h1,0,takeS_wf _ _,rfl,hl1,rfl,hr1,by simp only [yB]; ac_rfl⟩ (by repeat (first | exact zT _ | refine zO rfl ?_)) ?_
  rintro m g L ⟨s,h2,R,hwf,rfl,hsl,rfl,hrs,rfl⟩
  repeat (first | refine zF ?_ | refine zB ?_ | refine zK rfl rfl rfl ?_)
  refine zY rfl rfl (zQ rfl rfl rfl) (bad02_spec w0 D b s h2 hrs) ?_
  rintro _ _ ⟨rfl,rfl⟩
  cases hb : s.bad
  ·repeat (first | refine zR ?_ | refine zB ?_ | refine zE ?_ | refine zK rfl rfl rfl ?_ | refine zP ?_ | refine zJ rfl ?_)
   refine zY rfl rfl (zQ rfl rfl rfl) (getInt_spec w0 D b s h2 hrs hsl) ?_
   rintro _ _ ⟨h3,rfl,hr3,rfl⟩
   repeat (refine zE ?_)
   refine ⟨_,_,?_,(by repeat (first | exact zT _ | refine zO rfl ?_)),intS s,h3,_,takeS_wf _ _,rfl,by have := takeS_len s 8; unfold intS; omega,rfl,hr3,yK.out⟩
   unfold intS takeS
   split
   ·rename_i ht
    have : (8 : Int) ≤ s.left.length := by simp [takeOk,hb] at ht; exact_mod_cast ht
    simp; omega
   ·simp
  ·have hs : s = ⟨[],true⟩ := by
    obtain ⟨l,bd⟩ := s
    simp only at hb
    subst hb
    obtain rfl : l = [] := hwf rfl
    rfl
   subst hs
   repeat (first | refine zF ?_ | refine yD ?_ | refine zB ?_ | refine zE ?_ | refine zK rfl rfl rfl ?_ | refine zM ?_ | refine zI rfl ?_)
   exact ⟨[_],D + C odd + 0 + h2 + 0,_,⟨rfl,trivial⟩,⟨0,h2,0,OwL.nil _ _,hrs,rfl⟩,by simp only [yB]; exact yK.out⟩
 ·repeat (refine zK rfl rfl rfl ?_)
  refine zY rfl rfl (zQ rfl rfl rfl) (left02_spec w0 D b (intS st) h1 hr1) ?_
  rintro _ _ ⟨rfl,rfl⟩
  repeat (refine zK rfl rfl rfl ?_)
  refine yH rfl rfl (pv_quo_nn rfl rfl (by omega) (by omega) (by omega)) ?_
  refine yG rfl rfl (pv_gtr rfl rfl) (fun n2 => ?_) (fun n2 => ?_)
  ·have hno : listV one least (st,odd) = ([],(⟨[],true⟩,odd)) := by
    unfold listV
    rw [if_neg (fun h => by have := h.2; simp only at this; rw [Int.natCast_ediv] at this; omega)]
   rw [hno]
   repeat (first | refine zF ?_ | refine zR ?_ | refine zE ?_ | refine zK rfl rfl rfl ?_ | refine zJ rfl ?_)
   refine hold_loop (fun m g L => ∃ (s : RS) (h2 R : Hp),s.wf ∧ m = s.left.length + (if s.bad = true then 0 else 1) ∧ s.left.length ≤ 1000000000000 ∧ g = [(0,.pointer (some ⟨b,0,none⟩))] ∧ RdrAt w0 D b s h2 ∧ L = D + C odd + h2 + fr + R) _ _
    ⟨intS st,h1,0,takeS_wf _ _,rfl,hl1,rfl,hr1,by simp only [yB]; ac_rfl⟩ (by repeat (first | exact zT _ | refine zO rfl ?_)) ?_
   rintro m g L ⟨s,h2,R,hwf,rfl,hsl,rfl,hrs,rfl⟩
   repeat (first | refine zF ?_ | refine zB ?_ | refine zK rfl rfl rfl ?_)
   refine zY rfl rfl (zQ rfl rfl rfl) (bad02_spec w0 D b s h2 hrs) ?_
   rintro _ _ ⟨rfl,rfl⟩
   cases hb : s.bad
   ·repeat (first | refine zR ?_ | refine zB ?_ | refine zE ?_ | refine zK rfl rfl rfl ?_ | refine zP ?_ | refine zJ rfl ?_)
    refine zY rfl rfl (zQ rfl rfl rfl) (getInt_spec w0 D b s h2 hrs hsl) ?_
    rintro _ _ ⟨h3,rfl,hr3,rfl⟩
    repeat (refine zE ?_)
    refine ⟨_,_,?_,(by repeat (first | exact zT _ | refine zO rfl ?_)),intS s,h3,_,takeS_wf _ _,rfl,by have := takeS_len s 8; unfold intS; omega,rfl,hr3,yK.out⟩
    unfold intS takeS
    split
    ·rename_i ht
     have : (8 : Int) ≤ s.left.length := by simp [takeOk,hb] at ht; exact_mod_cast ht
     simp; omega
    ·simp
   ·have hs : s = ⟨[],true⟩ := by
     obtain ⟨l,bd⟩ := s
     simp only at hb
     subst hb
     obtain rfl : l = [] := hwf rfl
     rfl
    subst hs
    repeat (first | refine zF ?_ | refine yD ?_ | refine zB ?_ | refine zE ?_ | refine zK rfl rfl rfl ?_ | refine zM ?_ | refine zI rfl ?_)
    exact ⟨[_],D + C odd + 0 + h2 + 0,_,⟨rfl,trivial⟩,⟨0,h2,0,OwL.nil _ _,hrs,rfl⟩,by simp only [yB]; exact yK.out⟩
  ·obtain ⟨n,hn⟩ := Int.eq_ofNat_of_zero_le (show 0 ≤ intV st by omega)
   have hnl : n ≤ (intS st).left.length / least := by
    rw [hn] at n2
    have : ((intS st).left.length : Int) / (least : Int) = (((intS st).left.length / least : Nat) : Int) := (Int.natCast_ediv _ _).symm
    omega
   have hn12 : n ≤ 1000000000000 := Nat.le_trans hnl (Nat.le_trans (Nat.div_le_self _ _) hl1)
   have hyes : listV one least (st,odd) = manyS one n (intS st,odd) := by
    unfold listV
    rw [if_pos ⟨by simp only; omega,by simp only; rw [hn]; omega⟩]
    simp only [hn,Int.toNat_natCast]
   rw [hyes,hn]
   repeat (first | refine zF ?_ | refine zR ?_ | refine zB ?_ | refine zE ?_ | refine zK rfl rfl rfl ?_ | refine zP ?_ | refine zI rfl ?_)
   refine hold_count n (fun k g L => ∃ (vo : Value) (E h2 h3 R : Hp),g = [(2,.func (.func k0) #[] caps.toArray),(8,vo),(26,.int .i64 n),(27,.int .i64 k)] ∧ OwL w0 (D + E) (manyS one k (intS st,odd)).1 vo h3 ∧ RdrAt w0 D b (manyS one k (intS st,odd)).2.1 h2 ∧
     L = D + C (manyS one k (intS st,odd)).2.2 + E + h2 + h3 + fr + R) _
    ⟨.slice none 0 0,0,h1,0,0,rfl,OwL.nil _ _,hr1,by simp only [manyS,yB]; ac_rfl⟩ (by repeat (first | exact zT _ | refine zO rfl ?_)) ?_
   rintro k g L hk ⟨vo,E,h2,h3,R,rfl,ho,hr2,rfl⟩
   have hml := manyS_len hlen k (intS st,odd)
   have hmn := manyS_length one k (intS st,odd)
   repeat (first | refine zF ?_ | refine zB ?_)
   refine yG rfl rfl (pv_lss rfl rfl) (fun n3 => ?_) (fun n3 => ?_)
   ·repeat (first | refine zF ?_ | refine zR ?_ | refine zB ?_ | refine zE ?_ | refine zK rfl rfl rfl ?_ | refine zP ?_ | refine zJ rfl ?_)
    refine zY rfl rfl (zQ rfl rfl (by simp <;> rfl)) (hone (manyS one k (intS st,odd)).2 h2 (by simp only at hml; omega) hr2) ?_
    rintro _ _ ⟨e,E2,h4,rfl,he,hr4,rfl⟩
    obtain ⟨a9,c9,a10,c10,rfl,_⟩ := id he
    repeat (refine L_bs (vs := [_]) (cells := [_,_,_,_,_,_,_]) rfl rfl rfl rfl rfl rfl (fun _ => ?_))
    refine L_eff rfl rfl (ev_appendL (X := D + (E + E2)) (ns := [(one (manyS one k (intS st,odd)).2).1]) (h := h3) rfl rfl (ho.mono (R := E2) (by ac_rfl)) (rd_one rfl) (All2.one (Rep.mono (R := E) (by ac_rfl) he)) rfl rfl rfl rfl rfl (by rw [hmn]; simp only [List.length_singleton]; omega)) ?_
    rintro vo' _ ⟨h5,ho5,rfl⟩
    have e2 : (one (manyS one k (intS st,odd)).2).2 = (manyS one (k + 1) (intS st,odd)).2 := rfl
    rw [e2]
    repeat (first | refine zB ?_ | refine zE ?_ | refine zK rfl rfl rfl ?_ | refine L_add rfl rfl (by omega) (by omega) rfl rfl ?_)
    exact ⟨by omega,_,(by repeat (first | exact zT _ | refine zO rfl ?_)),vo',E + E2,h4,h5,_,rfl,ho5,hr4,yK.out⟩
   ·obtain rfl : k = n := by omega
    repeat (first | refine zF ?_ | refine yD ?_ | refine zB ?_ | refine zE ?_ | refine zK rfl rfl rfl ?_ | refine zM ?_ | refine zI rfl ?_)
    exact ⟨[_],D + C (manyS one k (intS st,odd)).2.2 + E + h2 + h3,_,⟨rfl,trivial⟩,⟨E,h2,h3,ho,hr2,rfl⟩,yK.out⟩
theorem listLk_spec (w0 : World) (D : Hp) (b : Nat) (C : Bool → Hp) (k0 : Nat) [hf : Fun Tryz.prog k0] (caps : List Value) (one : RS × Bool → Lk × (RS × Bool)) (least : Nat) (hleast : 1 ≤ least ∧ least ≤ 1000) (s : RS × Bool) (h : Hp) (hr : RdrAt w0 D b s.1 h) (hl : s.1.left.length ≤ 1000000000000)
  (hlen : ∀ s,(one s).2.1.left.length ≤ s.1.left.length)
  (hone : ∀ (s : RS × Bool) (h : Hp),s.1.left.length ≤ 1000000000000 → RdrAt w0 D b s.1 h → Spec Tryz.prog w0 k0 caps (D + C s.2 + h) (fun r h' => ∃ e E h2,r = .agg e.toArray ∧ Rep.rd w0 (D + E) (one s).1 e ∧ RdrAt w0 D b (one s).2.1 h2 ∧ D + C (one s).2.2 + E + h2 = h')) :
  Spec Tryz.prog w0 50 [.pointer (some ⟨b,0,none⟩),.int .i64 (least : Int),.func (.func k0) #[] caps.toArray] (D + C s.2 + h)
   (fun r h' => ∃ E h2 h3,OwL w0 (D + E) (listV one least s).1 r h3 ∧ RdrAt w0 D b (listV one least s).2.1 h2 ∧ D + C (listV one least s).2.2 + E + h2 + h3 = h') := by
 obtain ⟨st,odd⟩ := s
 change st.left.length ≤ _ at hl
 change RdrAt w0 D b st h at hr
 change Spec _ _ _ _ (D + C odd + h) _
 have hl1 : (intS st).left.length ≤ 1000000000000 := by have := takeS_len st 8; unfold intS; omega
 refine zN Tryz.func50 rfl Tryz.ntmps50 Tryz.results50 rfl fun fr => ?_
 repeat (first | refine zF ?_ | refine zB ?_ | refine zE ?_ | refine zK rfl rfl rfl ?_)
 refine zY rfl rfl (zQ rfl rfl rfl) (getInt_spec w0 D b st h hr hl) ?_
 rintro _ _ ⟨h1,rfl,hr1,rfl⟩
 repeat (first | refine zF ?_ | refine zB ?_ | refine zE ?_ | refine zK rfl rfl rfl ?_)
 refine yG rfl rfl (pv_lss rfl rfl) (fun n1 => ?_) (fun n1 => ?_)
 ·have hno : listV one least (st,odd) = ([],(⟨[],true⟩,odd)) := by unfold listV; rw [if_neg (fun h => by have := h.1; simp only at this; omega)]
  rw [hno]
  repeat (first | refine zF ?_ | refine zR ?_ | refine zE ?_ | refine zK rfl rfl rfl ?_ | refine L_skip rfl rfl ?_ | refine zJ rfl ?_)
  refine hold_loop (fun m g L => ∃ (s : RS) (h2 R : Hp),s.wf ∧ m = s.left.length + (if s.bad = true then 0 else 1) ∧ s.left.length ≤ 1000000000000 ∧ g = [(0,.pointer (some ⟨b,0,none⟩))] ∧ RdrAt w0 D b s h2 ∧ L = D + C odd + h2 + fr + R) _ _
   ⟨intS st,h1,0,takeS_wf _ _,rfl,hl1,rfl,hr1,by simp only [yB]; ac_rfl⟩ (by repeat (first | exact zT _ | refine zO rfl ?_)) ?_
  rintro m g L ⟨s,h2,R,hwf,rfl,hsl,rfl,hrs,rfl⟩
  repeat (first | refine zF ?_ | refine zB ?_ | refine zK rfl rfl rfl ?_)
  refine zY rfl rfl (zQ rfl rfl rfl) (bad02_spec w0 D b s h2 hrs) ?_
  rintro _ _ ⟨rfl,rfl⟩
  cases hb : s.bad
  ·repeat (first | refine zR ?_ | refine zB ?_ | refine zE ?_ | refine zK rfl rfl rfl ?_ | refine zP ?_ | refine zJ rfl ?_)
   refine zY rfl rfl (zQ rfl rfl rfl) (getInt_spec w0 D b s h2 hrs hsl) ?_
   rintro _ _ ⟨h3,rfl,hr3,rfl⟩
   repeat (refine zE ?_)
   refine ⟨_,_,?_,(by repeat (first | exact zT _ | refine zO rfl ?_)),intS s,h3,_,takeS_wf _ _,rfl,by have := takeS_len s 8; unfold intS; omega,rfl,hr3,yK.out⟩
   unfold intS takeS
   split
   ·rename_i ht
    have : (8 : Int) ≤ s.left.length := by simp [takeOk,hb] at ht; exact_mod_cast ht
    simp; omega
   ·simp
  ·have hs : s = ⟨[],true⟩ := by
    obtain ⟨l,bd⟩ := s
    simp only at hb
    subst hb
    obtain rfl : l = [] := hwf rfl
    rfl
   subst hs
   repeat (first | refine zF ?_ | refine yD ?_ | refine zB ?_ | refine zE ?_ | refine zK rfl rfl rfl ?_ | refine zM ?_ | refine zI rfl ?_)
   exact ⟨[_],D + C odd + 0 + h2 + 0,_,⟨rfl,trivial⟩,⟨0,h2,0,OwL.nil _ _,hrs,rfl⟩,by simp only [yB]; exact yK.out⟩
 ·repeat (refine zK rfl rfl rfl ?_)
  refine zY rfl rfl (zQ rfl rfl rfl) (left02_spec w0 D b (intS st) h1 hr1) ?_
  rintro _ _ ⟨rfl,rfl⟩
  repeat (refine zK rfl rfl rfl ?_)
  refine yH rfl rfl (pv_quo_nn rfl rfl (by omega) (by omega) (by omega)) ?_
  refine yG rfl rfl (pv_gtr rfl rfl) (fun n2 => ?_) (fun n2 => ?_)
  ·have hno : listV one least (st,odd) = ([],(⟨[],true⟩,odd)) := by
    unfold listV
    rw [if_neg (fun h => by have := h.2; simp only at this; rw [Int.natCast_ediv] at this; omega)]
   rw [hno]
   repeat (first | refine zF ?_ | refine zR ?_ | refine zE ?_ | refine zK rfl rfl rfl ?_ | refine zJ rfl ?_)
   refine hold_loop (fun m g L => ∃ (s : RS) (h2 R : Hp),s.wf ∧ m = s.left.length + (if s.bad = true then 0 else 1) ∧ s.left.length ≤ 1000000000000 ∧ g = [(0,.pointer (some ⟨b,0,none⟩))] ∧ RdrAt w0 D b s h2 ∧ L = D + C odd + h2 + fr + R) _ _
    ⟨intS st,h1,0,takeS_wf _ _,rfl,hl1,rfl,hr1,by simp only [yB]; ac_rfl⟩ (by repeat (first | exact zT _ | refine zO rfl ?_)) ?_
   rintro m g L ⟨s,h2,R,hwf,rfl,hsl,rfl,hrs,rfl⟩
   repeat (first | refine zF ?_ | refine zB ?_ | refine zK rfl rfl rfl ?_)
   refine zY rfl rfl (zQ rfl rfl rfl) (bad02_spec w0 D b s h2 hrs) ?_
   rintro _ _ ⟨rfl,rfl⟩
   cases hb : s.bad
   ·repeat (first | refine zR ?_ | refine zB ?_ | refine zE ?_ | refine zK rfl rfl rfl ?_ | refine zP ?_ | refine zJ rfl ?_)
    refine zY rfl rfl (zQ rfl rfl rfl) (getInt_spec w0 D b s h2 hrs hsl) ?_
    rintro _ _ ⟨h3,rfl,hr3,rfl⟩
    repeat (refine zE ?_)
    refine ⟨_,_,?_,(by repeat (first | exact zT _ | refine zO rfl ?_)),intS s,h3,_,takeS_wf _ _,rfl,by have := takeS_len s 8; unfold intS; omega,rfl,hr3,yK.out⟩
    unfold intS takeS
    split
    ·rename_i ht
     have : (8 : Int) ≤ s.left.length := by simp [takeOk,hb] at ht; exact_mod_cast ht
     simp; omega
    ·simp
   ·have hs : s = ⟨[],true⟩ := by
     obtain ⟨l,bd⟩ := s
     simp only at hb
     subst hb
     obtain rfl : l = [] := hwf rfl
     rfl
    subst hs
    repeat (first | refine zF ?_ | refine yD ?_ | refine zB ?_ | refine zE ?_ | refine zK rfl rfl rfl ?_ | refine zM ?_ | refine zI rfl ?_)
    exact ⟨[_],D + C odd + 0 + h2 + 0,_,⟨rfl,trivial⟩,⟨0,h2,0,OwL.nil _ _,hrs,rfl⟩,by simp only [yB]; exact yK.out⟩
  ·obtain ⟨n,hn⟩ := Int.eq_ofNat_of_zero_le (show 0 ≤ intV st by omega)
   have hnl : n ≤ (intS st).left.length / least := by
    rw [hn] at n2
    have : ((intS st).left.length : Int) / (least : Int) = (((intS st).left.length / least : Nat) : Int) := (Int.natCast_ediv _ _).symm
    omega
   have hn12 : n ≤ 1000000000000 := Nat.le_trans hnl (Nat.le_trans (Nat.div_le_self _ _) hl1)
   have hyes : listV one least (st,odd) = manyS one n (intS st,odd) := by
    unfold listV
    rw [if_pos ⟨by simp only; omega,by simp only; rw [hn]; omega⟩]
    simp only [hn,Int.toNat_natCast]
   rw [hyes,hn]
   repeat (first | refine zF ?_ | refine zR ?_ | refine zB ?_ | refine zE ?_ | refine zK rfl rfl rfl ?_ | refine zP ?_ | refine zI rfl ?_)
   refine hold_count n (fun k g L => ∃ (vo : Value) (E h2 h3 R : Hp),g = [(2,.func (.func k0) #[] caps.toArray),(8,vo),(26,.int .i64 n),(27,.int .i64 k)] ∧ OwL w0 (D + E) (manyS one k (intS st,odd)).1 vo h3 ∧ RdrAt w0 D b (manyS one k (intS st,odd)).2.1 h2 ∧
     L = D + C (manyS one k (intS st,odd)).2.2 + E + h2 + h3 + fr + R) _
    ⟨.slice none 0 0,0,h1,0,0,rfl,OwL.nil _ _,hr1,by simp only [manyS,yB]; ac_rfl⟩ (by repeat (first | exact zT _ | refine zO rfl ?_)) ?_
   rintro k g L hk ⟨vo,E,h2,h3,R,rfl,ho,hr2,rfl⟩
   have hml := manyS_len hlen k (intS st,odd)
   have hmn := manyS_length one k (intS st,odd)
   repeat (first | refine zF ?_ | refine zB ?_)
   refine yG rfl rfl (pv_lss rfl rfl) (fun n3 => ?_) (fun n3 => ?_)
   ·repeat (first | refine zF ?_ | refine zR ?_ | refine zB ?_ | refine zE ?_ | refine zK rfl rfl rfl ?_ | refine zP ?_ | refine zJ rfl ?_)
    refine zY rfl rfl (zQ rfl rfl (by simp <;> rfl)) (hone (manyS one k (intS st,odd)).2 h2 (by simp only at hml; omega) hr2) ?_
    rintro _ _ ⟨e,E2,h4,rfl,he,hr4,rfl⟩
    obtain rfl : e = [.int .i64 (one (manyS one k (intS st,odd)).2).1.block,.int .i64 (one (manyS one k (intS st,odd)).2).1.txn,.int .i64 (one (manyS one k (intS st,odd)).2).1.age,.bool (one (manyS one k (intS st,odd)).2).1.write] := id he
    repeat (refine L_bs (vs := [_]) (cells := [_,_,_,_]) rfl rfl rfl rfl rfl rfl (fun _ => ?_))
    refine L_eff rfl rfl (ev_appendL (X := D + (E + E2)) (ns := [(one (manyS one k (intS st,odd)).2).1]) (h := h3) rfl rfl (ho.mono (R := E2) (by ac_rfl)) (rd_one rfl) (All2.one (Rep.mono (R := E) (by ac_rfl) he)) rfl rfl rfl rfl rfl (by rw [hmn]; simp only [List.length_singleton]; omega)) ?_
    rintro vo' _ ⟨h5,ho5,rfl⟩
    have e2 : (one (manyS one k (intS st,odd)).2).2 = (manyS one (k + 1) (intS st,odd)).2 := rfl
    rw [e2]
    repeat (first | refine zB ?_ | refine zE ?_ | refine zK rfl rfl rfl ?_ | refine L_add rfl rfl (by omega) (by omega) rfl rfl ?_)
    exact ⟨by omega,_,(by repeat (first | exact zT _ | refine zO rfl ?_)),vo',E + E2,h4,h5,_,rfl,ho5,hr4,yK.out⟩
   ·obtain rfl : k = n := by omega
    repeat (first | refine zF ?_ | refine yD ?_ | refine zB ?_ | refine zE ?_ | refine zK rfl rfl rfl ?_ | refine zM ?_ | refine zI rfl ?_)
    exact ⟨[_],D + C (manyS one k (intS st,odd)).2.2 + E + h2 + h3,_,⟨rfl,trivial⟩,⟨E,h2,h3,ho,hr2,rfl⟩,yK.out⟩
theorem listBlk_spec (w0 : World) (D : Hp) (b : Nat) (C : Bool → Hp) (k0 : Nat) [hf : Fun Tryz.prog k0] (caps : List Value) (one : RS × Bool → Blk × (RS × Bool)) (least : Nat) (hleast : 1 ≤ least ∧ least ≤ 1000) (s : RS × Bool) (h : Hp) (hr : RdrAt w0 D b s.1 h) (hl : s.1.left.length ≤ 1000000000000)
  (hlen : ∀ s,(one s).2.1.left.length ≤ s.1.left.length)
  (hone : ∀ (s : RS × Bool) (h : Hp),s.1.left.length ≤ 1000000000000 → RdrAt w0 D b s.1 h → Spec Tryz.prog w0 k0 caps (D + C s.2 + h) (fun r h' => ∃ e E h2,r = .agg e.toArray ∧ Rep.rd w0 (D + E) (one s).1 e ∧ RdrAt w0 D b (one s).2.1 h2 ∧ D + C (one s).2.2 + E + h2 = h')) :
  Spec Tryz.prog w0 141 [.pointer (some ⟨b,0,none⟩),.int .i64 (least : Int),.func (.func k0) #[] caps.toArray] (D + C s.2 + h)
   (fun r h' => ∃ E h2 h3,OwL w0 (D + E) (listV one least s).1 r h3 ∧ RdrAt w0 D b (listV one least s).2.1 h2 ∧ D + C (listV one least s).2.2 + E + h2 + h3 = h') := by
 obtain ⟨st,odd⟩ := s
 change st.left.length ≤ _ at hl
 change RdrAt w0 D b st h at hr
 change Spec _ _ _ _ (D + C odd + h) _
 have hl1 : (intS st).left.length ≤ 1000000000000 := by have := takeS_len st 8; unfold intS; omega
 refine zN Tryz.func141 rfl Tryz.ntmps141 Tryz.results141 rfl fun fr => ?_
 repeat (first | refine zF ?_ | refine zB ?_ | refine zE ?_ | refine zK rfl rfl rfl ?_)
 refine zY rfl rfl (zQ rfl rfl rfl) (getInt_spec w0 D b st h hr hl) ?_
 rintro _ _ ⟨h1,rfl,hr1,rfl⟩
 repeat (first | refine zF ?_ | refine zB ?_ | refine zE ?_ | refine zK rfl rfl rfl ?_)
 refine yG rfl rfl (pv_lss rfl rfl) (fun n1 => ?_) (fun n1 => ?_)
 ·have hno : listV one least (st,odd) = ([],(⟨[],true⟩,odd)) := by unfold listV; rw [if_neg (fun h => by have := h.1; simp only at this; omega)]
  rw [hno]
  repeat (first | refine zF ?_ | refine zR ?_ | refine zE ?_ | refine zK rfl rfl rfl ?_ | refine L_skip rfl rfl ?_ | refine zJ rfl ?_)
  refine hold_loop (fun m g L => ∃ (s : RS) (h2 R : Hp),s.wf ∧ m = s.left.length + (if s.bad = true then 0 else 1) ∧ s.left.length ≤ 1000000000000 ∧ g = [(0,.pointer (some ⟨b,0,none⟩))] ∧ RdrAt w0 D b s h2 ∧ L = D + C odd + h2 + fr + R) _ _
   ⟨intS st,h1,0,takeS_wf _ _,rfl,hl1,rfl,hr1,by simp only [yB]; ac_rfl⟩ (by repeat (first | exact zT _ | refine zO rfl ?_)) ?_
  rintro m g L ⟨s,h2,R,hwf,rfl,hsl,rfl,hrs,rfl⟩
  repeat (first | refine zF ?_ | refine zB ?_ | refine zK rfl rfl rfl ?_)
  refine zY rfl rfl (zQ rfl rfl rfl) (bad02_spec w0 D b s h2 hrs) ?_
  rintro _ _ ⟨rfl,rfl⟩
  cases hb : s.bad
  ·repeat (first | refine zR ?_ | refine zB ?_ | refine zE ?_ | refine zK rfl rfl rfl ?_ | refine zP ?_ | refine zJ rfl ?_)
   refine zY rfl rfl (zQ rfl rfl rfl) (getInt_spec w0 D b s h2 hrs hsl) ?_
   rintro _ _ ⟨h3,rfl,hr3,rfl⟩
   repeat (refine zE ?_)
   refine ⟨_,_,?_,(by repeat (first | exact zT _ | refine zO rfl ?_)),intS s,h3,_,takeS_wf _ _,rfl,by have := takeS_len s 8; unfold intS; omega,rfl,hr3,yK.out⟩
   unfold intS takeS
   split
   ·rename_i ht
    have : (8 : Int) ≤ s.left.length := by simp [takeOk,hb] at ht; exact_mod_cast ht
    simp; omega
   ·simp
  ·have hs : s = ⟨[],true⟩ := by
    obtain ⟨l,bd⟩ := s
    simp only at hb
    subst hb
    obtain rfl : l = [] := hwf rfl
    rfl
   subst hs
   repeat (first | refine zF ?_ | refine yD ?_ | refine zB ?_ | refine zE ?_ | refine zK rfl rfl rfl ?_ | refine zM ?_ | refine zI rfl ?_)
   exact ⟨[_],D + C odd + 0 + h2 + 0,_,⟨rfl,trivial⟩,⟨0,h2,0,OwL.nil _ _,hrs,rfl⟩,by simp only [yB]; exact yK.out⟩
 ·repeat (refine zK rfl rfl rfl ?_)
  refine zY rfl rfl (zQ rfl rfl rfl) (left02_spec w0 D b (intS st) h1 hr1) ?_
  rintro _ _ ⟨rfl,rfl⟩
  repeat (refine zK rfl rfl rfl ?_)
  refine yH rfl rfl (pv_quo_nn rfl rfl (by omega) (by omega) (by omega)) ?_
  refine yG rfl rfl (pv_gtr rfl rfl) (fun n2 => ?_) (fun n2 => ?_)
  ·have hno : listV one least (st,odd) = ([],(⟨[],true⟩,odd)) := by
    unfold listV
    rw [if_neg (fun h => by have := h.2; simp only at this; rw [Int.natCast_ediv] at this; omega)]
   rw [hno]
   repeat (first | refine zF ?_ | refine zR ?_ | refine zE ?_ | refine zK rfl rfl rfl ?_ | refine zJ rfl ?_)
   refine hold_loop (fun m g L => ∃ (s : RS) (h2 R : Hp),s.wf ∧ m = s.left.length + (if s.bad = true then 0 else 1) ∧ s.left.length ≤ 1000000000000 ∧ g = [(0,.pointer (some ⟨b,0,none⟩))] ∧ RdrAt w0 D b s h2 ∧ L = D + C odd + h2 + fr + R) _ _
    ⟨intS st,h1,0,takeS_wf _ _,rfl,hl1,rfl,hr1,by simp only [yB]; ac_rfl⟩ (by repeat (first | exact zT _ | refine zO rfl ?_)) ?_
   rintro m g L ⟨s,h2,R,hwf,rfl,hsl,rfl,hrs,rfl⟩
   repeat (first | refine zF ?_ | refine zB ?_ | refine zK rfl rfl rfl ?_)
   refine zY rfl rfl (zQ rfl rfl rfl) (bad02_spec w0 D b s h2 hrs) ?_
   rintro _ _ ⟨rfl,rfl⟩
   cases hb : s.bad
   ·repeat (first | refine zR ?_ | refine zB ?_ | refine zE ?_ | refine zK rfl rfl rfl ?_ | refine zP ?_ | refine zJ rfl ?_)
    refine zY rfl rfl (zQ rfl rfl rfl) (getInt_spec w0 D b s h2 hrs hsl) ?_
    rintro _ _ ⟨h3,rfl,hr3,rfl⟩
    repeat (refine zE ?_)
    refine ⟨_,_,?_,(by repeat (first | exact zT _ | refine zO rfl ?_)),intS s,h3,_,takeS_wf _ _,rfl,by have := takeS_len s 8; unfold intS; omega,rfl,hr3,yK.out⟩
    unfold intS takeS
    split
    ·rename_i ht
     have : (8 : Int) ≤ s.left.length := by simp [takeOk,hb] at ht; exact_mod_cast ht
     simp; omega
    ·simp
   ·have hs : s = ⟨[],true⟩ := by
     obtain ⟨l,bd⟩ := s
     simp only at hb
     subst hb
     obtain rfl : l = [] := hwf rfl
     rfl
    subst hs
    repeat (first | refine zF ?_ | refine yD ?_ | refine zB ?_ | refine zE ?_ | refine zK rfl rfl rfl ?_ | refine zM ?_ | refine zI rfl ?_)
    exact ⟨[_],D + C odd + 0 + h2 + 0,_,⟨rfl,trivial⟩,⟨0,h2,0,OwL.nil _ _,hrs,rfl⟩,by simp only [yB]; exact yK.out⟩
  ·obtain ⟨n,hn⟩ := Int.eq_ofNat_of_zero_le (show 0 ≤ intV st by omega)
   have hnl : n ≤ (intS st).left.length / least := by
    rw [hn] at n2
    have : ((intS st).left.length : Int) / (least : Int) = (((intS st).left.length / least : Nat) : Int) := (Int.natCast_ediv _ _).symm
    omega
   have hn12 : n ≤ 1000000000000 := Nat.le_trans hnl (Nat.le_trans (Nat.div_le_self _ _) hl1)
   have hyes : listV one least (st,odd) = manyS one n (intS st,odd) := by
    unfold listV
    rw [if_pos ⟨by simp only; omega,by simp only; rw [hn]; omega⟩]
    simp only [hn,Int.toNat_natCast]
   rw [hyes,hn]
   repeat (first | refine zF ?_ | refine zR ?_ | refine zB ?_ | refine zE ?_ | refine zK rfl rfl rfl ?_ | refine zP ?_ | refine zI rfl ?_)
   refine hold_count n (fun k g L => ∃ (vo : Value) (E h2 h3 R : Hp),g = [(2,.func (.func k0) #[] caps.toArray),(8,vo),(26,.int .i64 n),(27,.int .i64 k)] ∧ OwL w0 (D + E) (manyS one k (intS st,odd)).1 vo h3 ∧ RdrAt w0 D b (manyS one k (intS st,odd)).2.1 h2 ∧
     L = D + C (manyS one k (intS st,odd)).2.2 + E + h2 + h3 + fr + R) _
    ⟨.slice none 0 0,0,h1,0,0,rfl,OwL.nil _ _,hr1,by simp only [manyS,yB]; ac_rfl⟩ (by repeat (first | exact zT _ | refine zO rfl ?_)) ?_
   rintro k g L hk ⟨vo,E,h2,h3,R,rfl,ho,hr2,rfl⟩
   have hml := manyS_len hlen k (intS st,odd)
   have hmn := manyS_length one k (intS st,odd)
   repeat (first | refine zF ?_ | refine zB ?_)
   refine yG rfl rfl (pv_lss rfl rfl) (fun n3 => ?_) (fun n3 => ?_)
   ·repeat (first | refine zF ?_ | refine zR ?_ | refine zB ?_ | refine zE ?_ | refine zK rfl rfl rfl ?_ | refine zP ?_ | refine zJ rfl ?_)
    refine zY rfl rfl (zQ rfl rfl (by simp <;> rfl)) (hone (manyS one k (intS st,odd)).2 h2 (by simp only at hml; omega) hr2) ?_
    rintro _ _ ⟨e,E2,h4,rfl,he,hr4,rfl⟩
    obtain ⟨a9,c9,rfl,_⟩ := id he
    repeat (refine L_bs (vs := [_]) (cells := [_,_]) rfl rfl rfl rfl rfl rfl (fun _ => ?_))
    refine L_eff rfl rfl (ev_appendL (X := D + (E + E2)) (ns := [(one (manyS one k (intS st,odd)).2).1]) (h := h3) rfl rfl (ho.mono (R := E2) (by ac_rfl)) (rd_one rfl) (All2.one (Rep.mono (R := E) (by ac_rfl) he)) rfl rfl rfl rfl rfl (by rw [hmn]; simp only [List.length_singleton]; omega)) ?_
    rintro vo' _ ⟨h5,ho5,rfl⟩
    have e2 : (one (manyS one k (intS st,odd)).2).2 = (manyS one (k + 1) (intS st,odd)).2 := rfl
    rw [e2]
    repeat (first | refine zB ?_ | refine zE ?_ | refine zK rfl rfl rfl ?_ | refine L_add rfl rfl (by omega) (by omega) rfl rfl ?_)
    exact ⟨by omega,_,(by repeat (first | exact zT _ | refine zO rfl ?_)),vo',E + E2,h4,h5,_,rfl,ho5,hr4,yK.out⟩
   ·obtain rfl : k = n := by omega
    repeat (first | refine zF ?_ | refine yD ?_ | refine zB ?_ | refine zE ?_ | refine zK rfl rfl rfl ?_ | refine zM ?_ | refine zI rfl ?_)
    exact ⟨[_],D + C (manyS one k (intS st,odd)).2.2 + E + h2 + h3,_,⟨rfl,trivial⟩,⟨E,h2,h3,ho,hr2,rfl⟩,yK.out⟩
end Sl
end Go.Proofs.YtpkealohodeifaaGreat
namespace Go.Proofs.YtpkealohodeifaaGreat
open Go Go.RowKit
namespace Sl
set_option maxHeartbeats 8000000
set_option maxRecDepth 4000
attribute [local irreducible] Hold HoldL HoldW HoldV
theorem zero_mid {A h fr L R : Hp} (e : L = A + h + fr + R) : L = A + 0 + h + fr + R := by rw [yB]; exact e
abbrev St2 := RS × Bool
def oneBlk (s : St2) : Blk × St2 := (⟨intV s.1,blobV (intS s.1)⟩,(blobS (intS s.1),s.2))
def oneWr (s : St2) : Wr × St2 := (⟨intV s.1,blobV (intS s.1)⟩,(blobS (intS s.1),s.2))
def oneKpt (s : St2) : Kpt × St2 := (⟨intV s.1,intV (intS s.1),blobV (intS (intS s.1))⟩,(blobS (intS (intS s.1)),s.2))
def oneOut (s : St2) : Outp × St2 := (⟨intV s.1,intV (intS s.1),intV (intS (intS s.1)),blobV (intS (intS (intS s.1)))⟩,(blobS (intS (intS (intS s.1))),s.2))
def oneSes (s : St2) : Ses × St2 := (⟨intV s.1,intV (intS s.1),⟨intV (intS (intS s.1)),blobV (intS (intS (intS s.1)))⟩⟩,(blobS (intS (intS (intS s.1))),s.2))
def oddF (n : Int) : Bool := decide (n ≠ 0 ∧ n ≠ 1)
def oneLk (s : St2) : Lk × St2 := (⟨intV s.1,intV (intS s.1),intV (intS (intS s.1)),decide (intV (intS (intS (intS s.1))) = 1)⟩,(intS (intS (intS (intS s.1))),s.2 || oddF (intV (intS (intS (intS s.1))))))
def s5 (s : RS) : RS := intS (intS (intS (intS (intS s))))
def onePrp (s : St2) : Prp × St2 :=
 (⟨intV s.1,intV (intS s.1),intV (intS (intS s.1)),intV (intS (intS (intS s.1))),intV (intS (intS (intS (intS s.1)))),intsV (s5 s.1),(listV oneWr 16 (intsS (s5 s.1),s.2)).1⟩,(listV oneWr 16 (intsS (s5 s.1),s.2)).2)
theorem intS_len (s : RS) : (intS s).left.length ≤ s.left.length := takeS_len s 8
theorem blobS_len (s : RS) : (blobS s).left.length ≤ s.left.length := Nat.le_trans (takeS_len _ _) (takeS_len _ _)
theorem intsS_len (s : RS) : (intsS s).left.length ≤ s.left.length := by
 unfold intsS
 split
 ·exact Nat.le_trans (many_len (f := fun s => (intV s,intS s)) (fun s => intS_len s) _ _) (intS_len s)
 ·simp
theorem oneBlk_len (s : St2) : (oneBlk s).2.1.left.length ≤ s.1.left.length := Nat.le_trans (blobS_len _) (intS_len _)
theorem oneWr_len (s : St2) : (oneWr s).2.1.left.length ≤ s.1.left.length := Nat.le_trans (blobS_len _) (intS_len _)
theorem oneKpt_len (s : St2) : (oneKpt s).2.1.left.length ≤ s.1.left.length := Nat.le_trans (blobS_len _) (Nat.le_trans (intS_len _) (intS_len _))
theorem oneOut_len (s : St2) : (oneOut s).2.1.left.length ≤ s.1.left.length := Nat.le_trans (blobS_len _) (Nat.le_trans (intS_len _) (Nat.le_trans (intS_len _) (intS_len _)))
theorem oneSes_len (s : St2) : (oneSes s).2.1.left.length ≤ s.1.left.length := Nat.le_trans (blobS_len _) (Nat.le_trans (intS_len _) (Nat.le_trans (intS_len _) (intS_len _)))
theorem oneLk_len (s : St2) : (oneLk s).2.1.left.length ≤ s.1.left.length := Nat.le_trans (intS_len _) (Nat.le_trans (intS_len _) (Nat.le_trans (intS_len _) (intS_len _)))
theorem s5_len (s : RS) : (s5 s).left.length ≤ s.left.length := Nat.le_trans (intS_len _) (Nat.le_trans (intS_len _) (Nat.le_trans (intS_len _) (Nat.le_trans (intS_len _) (intS_len _))))
theorem onePrp_len (s : St2) : (onePrp s).2.1.left.length ≤ s.1.left.length := Nat.le_trans (listV_len oneWr_len 16 _) (Nat.le_trans (intsS_len _) (s5_len _))
abbrev boxR (bc b : Nat) : Hp := pt bc (.cells [.pointer (some ⟨b,0,none⟩)].toArray 87 (0,0))
theorem getBlk1_spec (w0 : World) (D : Hp) (b bc : Nat) (s : St2) (h : Hp) (hl : s.1.left.length ≤ 1000000000000) (hr : RdrAt w0 D b s.1 h) :
  Spec Tryz.prog w0 142 [.pointer (some ⟨bc,0,none⟩)] (D + boxR bc b + h) (fun r h' => ∃ e E h2,r = .agg e.toArray ∧ Rep.rd w0 (D + E) (oneBlk s).1 e ∧ RdrAt w0 D b (oneBlk s).2.1 h2 ∧ D + boxR bc b + E + h2 = h') := by
 have hl1 := intS_len s.1
 refine zN Tryz.func142 rfl Tryz.ntmps142 Tryz.results142 rfl fun fr => ?_
 repeat (first | refine zF ?_ | refine zB ?_ | refine zE ?_ | refine L_alloc (c := [_,_]) rfl rfl rfl (fun _ => ?_))
 refine yC [1,3,5] [0,2,1,3,4,5] (by kernel_rfl) rfl (by kernel_rfl) (by kernel_rfl) ?_
 repeat (refine W_load rfl rfl rfl rfl (yF rfl) (zG rfl (zS rfl)) ?_)
 refine W_call rfl rfl rfl rfl (zQ rfl rfl rfl) (getInt_spec w0 D b s.1 h hr hl) (Kept.all _) ?_
 rintro _ _ ⟨h2,rfl,hr2,rfl⟩
 refine ⟨(by repeat (first | exact trivial | exact zG rfl (zS rfl) | exact zL rfl rfl rfl | exact zX rfl (by assumption) rfl | exact zH rfl (by assumption) rfl | exact zH rfl (by assumption) (by assumption) | refine ⟨?_,?_⟩)),?_⟩
 refine W_call rfl rfl rfl rfl (zQ rfl rfl rfl) (getBlob_spec w0 D b (intS s.1) h2 hr2 (by omega)) (Kept.all _) ?_
 rintro _ _ ⟨a,c,h3,rfl,hrd,hr3,rfl⟩
 refine ⟨(by repeat (first | exact trivial | exact zG rfl (zS rfl) | exact zL rfl rfl rfl | exact zX rfl (by assumption) rfl | exact zH rfl (by assumption) rfl | exact zH rfl (by assumption) (by assumption) | refine ⟨?_,?_⟩)),?_⟩
 repeat (refine yE rfl rfl rfl rfl (pv_build (vs := [_,_]) (cells := [_,_]) rfl rfl) ?_)
 refine W_eff rfl rfl rfl rfl (ev_storeA (vs := [_,_]) rfl rfl rfl rfl (c := [_,_]) (Nat.le_of_ble_eq_true rfl) (c' := [_,_]) rfl) (Kept.all _) ?_
 rintro _ _ rfl
 refine ⟨(by repeat (first | exact trivial | exact zG rfl (zS rfl) | exact zL rfl rfl rfl | exact zX rfl (by assumption) rfl | exact zH rfl (by assumption) rfl | exact zH rfl (by assumption) (by assumption) | refine ⟨?_,?_⟩)),?_⟩
 repeat (refine yJ ?_)
 repeat (refine zM ?_)
 exact ⟨[_],D + boxR bc b + 0 + h3,_,⟨⟨_,rfl,zL rfl rfl rfl⟩,trivial⟩,⟨_,0,h3,rfl,⟨a,c,rfl,by rw [yB]; exact hrd⟩,hr3,rfl⟩,zero_mid yK.out⟩
theorem getWr1_spec (w0 : World) (D : Hp) (b bc : Nat) (s : St2) (h : Hp) (hl : s.1.left.length ≤ 1000000000000) (hr : RdrAt w0 D b s.1 h) :
  Spec Tryz.prog w0 56 [.pointer (some ⟨bc,0,none⟩)] (D + boxR bc b + h) (fun r h' => ∃ e E h2,r = .agg e.toArray ∧ Rep.rd w0 (D + E) (oneWr s).1 e ∧ RdrAt w0 D b (oneWr s).2.1 h2 ∧ D + boxR bc b + E + h2 = h') := by
 have hl1 := intS_len s.1
 refine zN Tryz.func56 rfl Tryz.ntmps56 Tryz.results56 rfl fun fr => ?_
 repeat (first | refine zF ?_ | refine zB ?_ | refine zE ?_ | refine L_alloc (c := [_,_]) rfl rfl rfl (fun _ => ?_))
 refine yC [1,3,5] [0,2,1,3,4,5] (by kernel_rfl) rfl (by kernel_rfl) (by kernel_rfl) ?_
 repeat (refine W_load rfl rfl rfl rfl (yF rfl) (zG rfl (zS rfl)) ?_)
 refine W_call rfl rfl rfl rfl (zQ rfl rfl rfl) (getInt_spec w0 D b s.1 h hr hl) (Kept.all _) ?_
 rintro _ _ ⟨h2,rfl,hr2,rfl⟩
 refine ⟨(by repeat (first | exact trivial | exact zG rfl (zS rfl) | exact zL rfl rfl rfl | exact zX rfl (by assumption) rfl | exact zH rfl (by assumption) rfl | exact zH rfl (by assumption) (by assumption) | refine ⟨?_,?_⟩)),?_⟩
 refine W_call rfl rfl rfl rfl (zQ rfl rfl rfl) (getBlob_spec w0 D b (intS s.1) h2 hr2 (by omega)) (Kept.all _) ?_
 rintro _ _ ⟨a,c,h3,rfl,hrd,hr3,rfl⟩
 refine ⟨(by repeat (first | exact trivial | exact zG rfl (zS rfl) | exact zL rfl rfl rfl | exact zX rfl (by assumption) rfl | exact zH rfl (by assumption) rfl | exact zH rfl (by assumption) (by assumption) | refine ⟨?_,?_⟩)),?_⟩
 repeat (refine yE rfl rfl rfl rfl (pv_build (vs := [_,_]) (cells := [_,_]) rfl rfl) ?_)
 refine W_eff rfl rfl rfl rfl (ev_storeA (vs := [_,_]) rfl rfl rfl rfl (c := [_,_]) (Nat.le_of_ble_eq_true rfl) (c' := [_,_]) rfl) (Kept.all _) ?_
 rintro _ _ rfl
 refine ⟨(by repeat (first | exact trivial | exact zG rfl (zS rfl) | exact zL rfl rfl rfl | exact zX rfl (by assumption) rfl | exact zH rfl (by assumption) rfl | exact zH rfl (by assumption) (by assumption) | refine ⟨?_,?_⟩)),?_⟩
 repeat (refine yJ ?_)
 repeat (refine zM ?_)
 exact ⟨[_],D + boxR bc b + 0 + h3,_,⟨⟨_,rfl,zL rfl rfl rfl⟩,trivial⟩,⟨_,0,h3,rfl,⟨a,c,rfl,by rw [yB]; exact hrd⟩,hr3,rfl⟩,zero_mid yK.out⟩
theorem getKpt1_spec (w0 : World) (D : Hp) (b bc : Nat) (s : St2) (h : Hp) (hl : s.1.left.length ≤ 1000000000000) (hr : RdrAt w0 D b s.1 h) :
  Spec Tryz.prog w0 144 [.pointer (some ⟨bc,0,none⟩)] (D + boxR bc b + h) (fun r h' => ∃ e E h2,r = .agg e.toArray ∧ Rep.rd w0 (D + E) (oneKpt s).1 e ∧ RdrAt w0 D b (oneKpt s).2.1 h2 ∧ D + boxR bc b + E + h2 = h') := by
 have hl1 := intS_len s.1
 have hl2 := intS_len (intS s.1)
 refine zN Tryz.func144 rfl Tryz.ntmps144 Tryz.results144 rfl fun fr => ?_
 repeat (first | refine zF ?_ | refine zB ?_ | refine zE ?_ | refine L_alloc (c := [_,_,_]) rfl rfl rfl (fun _ => ?_))
 refine yC [1,3,5,7] [0,2,4,1,3,5,6,7] (by kernel_rfl) rfl (by kernel_rfl) (by kernel_rfl) ?_
 repeat (refine W_load rfl rfl rfl rfl (yF rfl) (zG rfl (zS rfl)) ?_)
 refine W_call rfl rfl rfl rfl (zQ rfl rfl rfl) (getInt_spec w0 D b s.1 h hr hl) (Kept.all _) ?_
 rintro _ _ ⟨h2,rfl,hr2,rfl⟩
 refine ⟨(by repeat (first | exact trivial | exact zG rfl (zS rfl) | exact zL rfl rfl rfl | exact zX rfl (by assumption) rfl | exact zH rfl (by assumption) rfl | exact zH rfl (by assumption) (by assumption) | refine ⟨?_,?_⟩)),?_⟩
 refine W_call rfl rfl rfl rfl (zQ rfl rfl rfl) (getInt_spec w0 D b (intS s.1) h2 hr2 (by omega)) (Kept.all _) ?_
 rintro _ _ ⟨h4,rfl,hr4,rfl⟩
 refine ⟨(by repeat (first | exact trivial | exact zG rfl (zS rfl) | exact zL rfl rfl rfl | exact zX rfl (by assumption) rfl | exact zH rfl (by assumption) rfl | exact zH rfl (by assumption) (by assumption) | refine ⟨?_,?_⟩)),?_⟩
 refine W_call rfl rfl rfl rfl (zQ rfl rfl rfl) (getBlob_spec w0 D b (intS (intS s.1)) h4 hr4 (by omega)) (Kept.all _) ?_
 rintro _ _ ⟨a,c,h3,rfl,hrd,hr3,rfl⟩
 refine ⟨(by repeat (first | exact trivial | exact zG rfl (zS rfl) | exact zL rfl rfl rfl | exact zX rfl (by assumption) rfl | exact zH rfl (by assumption) rfl | exact zH rfl (by assumption) (by assumption) | refine ⟨?_,?_⟩)),?_⟩
 repeat (refine yE rfl rfl rfl rfl (pv_build (vs := [_,_,_]) (cells := [_,_,_]) rfl rfl) ?_)
 refine W_eff rfl rfl rfl rfl (ev_storeA (vs := [_,_,_]) rfl rfl rfl rfl (c := [_,_,_]) (Nat.le_of_ble_eq_true rfl) (c' := [_,_,_]) rfl) (Kept.all _) ?_
 rintro _ _ rfl
 refine ⟨(by repeat (first | exact trivial | exact zG rfl (zS rfl) | exact zL rfl rfl rfl | exact zX rfl (by assumption) rfl | exact zH rfl (by assumption) rfl | exact zH rfl (by assumption) (by assumption) | refine ⟨?_,?_⟩)),?_⟩
 repeat (refine yJ ?_)
 repeat (refine zM ?_)
 exact ⟨[_],D + boxR bc b + 0 + h3,_,⟨⟨_,rfl,zL rfl rfl rfl⟩,trivial⟩,⟨_,0,h3,rfl,⟨a,c,rfl,by rw [yB]; exact hrd⟩,hr3,rfl⟩,zero_mid yK.out⟩
theorem getOut1_spec (w0 : World) (D : Hp) (b bc : Nat) (s : St2) (h : Hp) (hl : s.1.left.length ≤ 1000000000000) (hr : RdrAt w0 D b s.1 h) :
  Spec Tryz.prog w0 59 [.pointer (some ⟨bc,0,none⟩)] (D + boxR bc b + h) (fun r h' => ∃ e E h2,r = .agg e.toArray ∧ Rep.rd w0 (D + E) (oneOut s).1 e ∧ RdrAt w0 D b (oneOut s).2.1 h2 ∧ D + boxR bc b + E + h2 = h') := by
 have hl1 := intS_len s.1
 have hl2 := intS_len (intS s.1)
 have hl3 := intS_len (intS (intS s.1))
 refine zN Tryz.func59 rfl Tryz.ntmps59 Tryz.results59 rfl fun fr => ?_
 repeat (first | refine zF ?_ | refine zB ?_ | refine zE ?_ | refine L_alloc (c := [_,_,_,_]) rfl rfl rfl (fun _ => ?_))
 refine yC [1,3,5,7,9] [0,2,4,6,1,3,5,7,8,9] (by kernel_rfl) rfl (by kernel_rfl) (by kernel_rfl) ?_
 repeat (refine W_load rfl rfl rfl rfl (yF rfl) (zG rfl (zS rfl)) ?_)
 refine W_call rfl rfl rfl rfl (zQ rfl rfl rfl) (getInt_spec w0 D b s.1 h hr hl) (Kept.all _) ?_
 rintro _ _ ⟨h2,rfl,hr2,rfl⟩
 refine ⟨(by repeat (first | exact trivial | exact zG rfl (zS rfl) | exact zL rfl rfl rfl | exact zX rfl (by assumption) rfl | exact zH rfl (by assumption) rfl | exact zH rfl (by assumption) (by assumption) | refine ⟨?_,?_⟩)),?_⟩
 refine W_call rfl rfl rfl rfl (zQ rfl rfl rfl) (getInt_spec w0 D b (intS s.1) h2 hr2 (by omega)) (Kept.all _) ?_
 rintro _ _ ⟨h4,rfl,hr4,rfl⟩
 refine ⟨(by repeat (first | exact trivial | exact zG rfl (zS rfl) | exact zL rfl rfl rfl | exact zX rfl (by assumption) rfl | exact zH rfl (by assumption) rfl | exact zH rfl (by assumption) (by assumption) | refine ⟨?_,?_⟩)),?_⟩
 refine W_call rfl rfl rfl rfl (zQ rfl rfl rfl) (getInt_spec w0 D b (intS (intS s.1)) h4 hr4 (by omega)) (Kept.all _) ?_
 rintro _ _ ⟨h5,rfl,hr5,rfl⟩
 refine ⟨(by repeat (first | exact trivial | exact zG rfl (zS rfl) | exact zL rfl rfl rfl | exact zX rfl (by assumption) rfl | exact zH rfl (by assumption) rfl | exact zH rfl (by assumption) (by assumption) | refine ⟨?_,?_⟩)),?_⟩
 refine W_call rfl rfl rfl rfl (zQ rfl rfl rfl) (getBlob_spec w0 D b (intS (intS (intS s.1))) h5 hr5 (by omega)) (Kept.all _) ?_
 rintro _ _ ⟨a,c,h3,rfl,hrd,hr3,rfl⟩
 refine ⟨(by repeat (first | exact trivial | exact zG rfl (zS rfl) | exact zL rfl rfl rfl | exact zX rfl (by assumption) rfl | exact zH rfl (by assumption) rfl | exact zH rfl (by assumption) (by assumption) | refine ⟨?_,?_⟩)),?_⟩
 repeat (refine yE rfl rfl rfl rfl (pv_build (vs := [_,_,_,_]) (cells := [_,_,_,_]) rfl rfl) ?_)
 refine W_eff rfl rfl rfl rfl (ev_storeA (vs := [_,_,_,_]) rfl rfl rfl rfl (c := [_,_,_,_]) (Nat.le_of_ble_eq_true rfl) (c' := [_,_,_,_]) rfl) (Kept.all _) ?_
 rintro _ _ rfl
 refine ⟨(by repeat (first | exact trivial | exact zG rfl (zS rfl) | exact zL rfl rfl rfl | exact zX rfl (by assumption) rfl | exact zH rfl (by assumption) rfl | exact zH rfl (by assumption) (by assumption) | refine ⟨?_,?_⟩)),?_⟩
 repeat (refine yJ ?_)
 repeat (refine zM ?_)
 exact ⟨[_],D + boxR bc b + 0 + h3,_,⟨⟨_,rfl,zL rfl rfl rfl⟩,trivial⟩,⟨_,0,h3,rfl,⟨a,c,rfl,by rw [yB]; exact hrd⟩,hr3,rfl⟩,zero_mid yK.out⟩
theorem getSes1_spec (w0 : World) (D : Hp) (b bc : Nat) (s : St2) (h : Hp) (hl : s.1.left.length ≤ 1000000000000) (hr : RdrAt w0 D b s.1 h) :
  Spec Tryz.prog w0 61 [.pointer (some ⟨bc,0,none⟩)] (D + boxR bc b + h) (fun r h' => ∃ e E h2,r = .agg e.toArray ∧ Rep.rd w0 (D + E) (oneSes s).1 e ∧ RdrAt w0 D b (oneSes s).2.1 h2 ∧ D + boxR bc b + E + h2 = h') := by
 have hl1 := intS_len s.1
 have hl2 := intS_len (intS s.1)
 have hl3 := intS_len (intS (intS s.1))
 refine zN Tryz.func61 rfl Tryz.ntmps61 Tryz.results61 rfl fun fr => ?_
 repeat (first | refine zF ?_ | refine zB ?_ | refine zE ?_ | refine L_alloc (c := [_,_,_,_]) rfl rfl rfl (fun _ => ?_))
 refine hold_drawV [1,3,5,6] [0,2,1,3,4,5,6] 5 2 [.int .i64 0,.int .i64 0,.int .i64 0,.slice none 0 0] 110 (by kernel_rfl) rfl (by kernel_rfl) (by kernel_rfl) (by kernel_rfl) ?_
 repeat (refine V_load rfl rfl (fun _ => rfl) (zG rfl (zS rfl)) rfl rfl rfl rfl ?_)
 refine V_call rfl rfl rfl rfl rfl (zQ rfl rfl rfl) (fun _ => zQ rfl rfl rfl) (getInt_spec w0 D b s.1 h hr hl) (Kept.all _) rfl rfl rfl rfl ?_
 rintro _ _ ⟨h2,rfl,hr2,rfl⟩
 refine ⟨(by repeat (first | exact trivial | exact zG rfl (zS rfl) | exact zL rfl rfl rfl | exact zX rfl (by assumption) rfl | exact zH rfl (by assumption) rfl | exact zH rfl (by assumption) (by assumption) | refine ⟨?_,?_⟩)),?_⟩
 refine V_call rfl rfl rfl rfl rfl (zQ rfl rfl rfl) (fun _ => zQ rfl rfl rfl) (getInt_spec w0 D b (intS s.1) h2 hr2 (by omega)) (Kept.all _) rfl rfl rfl rfl ?_
 rintro _ _ ⟨h4,rfl,hr4,rfl⟩
 refine ⟨(by repeat (first | exact trivial | exact zG rfl (zS rfl) | exact zL rfl rfl rfl | exact zX rfl (by assumption) rfl | exact zH rfl (by assumption) rfl | exact zH rfl (by assumption) (by assumption) | refine ⟨?_,?_⟩)),?_⟩
 repeat (refine V_pure rfl (pv_build (vs := [_,_]) (cells := [_,_,_,_]) rfl rfl) (fun _ => pv_build (vs := [_,_]) (cells := [_,_,_,_]) rfl rfl) rfl rfl rfl rfl ?_)
 refine V_now rfl rfl rfl rfl (fun b2 => ?_)
 refine W_eff rfl rfl rfl rfl (ev_storeA (vs := [_,_,_,_]) rfl rfl rfl rfl (c := [_,_,_,_]) (Nat.le_of_ble_eq_true rfl) (c' := [_,_,_,_]) rfl) (Kept.all _) ?_
 rintro _ _ rfl
 refine ⟨(by repeat (first | exact trivial | exact zG rfl (zS rfl) | exact zL rfl rfl rfl | exact zX rfl (by assumption) rfl | exact zH rfl (by assumption) rfl | exact zH rfl (by assumption) (by assumption) | refine ⟨?_,?_⟩)),?_⟩
 repeat (refine yJ ?_)
 repeat (refine zF ?_)
 refine yC [1,3,6] [0,2,1,3,4,5,6] (by kernel_rfl) rfl (by kernel_rfl) (by kernel_rfl) ?_
 repeat (refine W_load rfl rfl rfl rfl (yF rfl) (zG rfl (zS rfl)) ?_)
 refine W_call rfl rfl rfl rfl (zQ rfl rfl rfl) (getInt_spec w0 D b (intS (intS s.1)) h4 hr4 (by omega)) (Kept.all _) ?_
 rintro _ _ ⟨h5,rfl,hr5,rfl⟩
 refine ⟨(by repeat (first | exact trivial | exact zG rfl (zS rfl) | exact zL rfl rfl rfl | exact zX rfl (by assumption) rfl | exact zH rfl (by assumption) rfl | exact zH rfl (by assumption) (by assumption) | refine ⟨?_,?_⟩)),?_⟩
 refine W_call rfl rfl rfl rfl (zQ rfl rfl rfl) (getBlob_spec w0 D b (intS (intS (intS s.1))) h5 hr5 (by omega)) (Kept.all _) ?_
 rintro _ _ ⟨a,c,h3,rfl,hrd,hr3,rfl⟩
 refine ⟨(by repeat (first | exact trivial | exact zG rfl (zS rfl) | exact zL rfl rfl rfl | exact zX rfl (by assumption) rfl | exact zH rfl (by assumption) rfl | exact zH rfl (by assumption) (by assumption) | refine ⟨?_,?_⟩)),?_⟩
 repeat (first | refine yE rfl rfl rfl rfl (yA rfl rfl rfl) ?_ | refine yE rfl rfl rfl rfl (pv_build (vs := [_,_]) (cells := [_,_]) rfl rfl) ?_)
 refine W_eff rfl rfl rfl rfl (ev_storeA (vs := [_,_]) rfl rfl rfl rfl (c := [_,_,_,_]) (Nat.le_of_ble_eq_true rfl) (c' := [_,_,_,_]) rfl) (Kept.all _) ?_
 rintro _ _ rfl
 refine ⟨(by repeat (first | exact trivial | exact zG rfl (zS rfl) | exact zL rfl rfl rfl | exact zX rfl (by assumption) rfl | exact zH rfl (by assumption) rfl | exact zH rfl (by assumption) (by assumption) | refine ⟨?_,?_⟩)),?_⟩
 repeat (refine yJ ?_)
 repeat (first | refine zF ?_ | refine zB ?_ | refine zE ?_ | refine zM ?_ | refine L_ldA rfl (vs := [_,_,_,_]) rfl rfl rfl rfl rfl ?_ | refine L_stA rfl (vs := [_,_,_,_]) rfl rfl rfl rfl (c' := [_,_,_,_]) rfl rfl ?_)
 exact ⟨[_],D + boxR bc b + 0 + h3,_,⟨⟨_,rfl,zL rfl rfl rfl⟩,trivial⟩,⟨_,0,h3,rfl,⟨a,c,rfl,by rw [yB]; exact hrd⟩,hr3,rfl⟩,zero_mid yK.out⟩
theorem getLk1_spec (w0 : World) (D : Hp) (b bc bo : Nat) (s : St2) (h : Hp) (hl : s.1.left.length ≤ 1000000000000) (hr : RdrAt w0 D b s.1 h) :
  Spec Tryz.prog w0 51 [.pointer (some ⟨bc,0,none⟩),.pointer (some ⟨bo,0,none⟩)] (D + (boxR bc b + pt bo (.cells [.bool s.2].toArray 4 (0,0))) + h)
   (fun r h' => ∃ e E h2,r = .agg e.toArray ∧ Rep.rd w0 (D + E) (oneLk s).1 e ∧ RdrAt w0 D b (oneLk s).2.1 h2 ∧ D + (boxR bc b + pt bo (.cells [.bool (oneLk s).2.2].toArray 4 (0,0))) + E + h2 = h') := by
 have hl1 := intS_len s.1
 have hl2 := intS_len (intS s.1)
 have hl3 := intS_len (intS (intS s.1))
 refine zN Tryz.func51 rfl Tryz.ntmps51 Tryz.results51 rfl fun fr => ?_
 repeat (first | refine zF ?_ | refine zB ?_ | refine zE ?_ | refine L_alloc (c := [_,_,_,_]) rfl rfl rfl (fun _ => ?_))
 refine hold_drawV [1,3,5,7,8] [0,2,4,1,3,5,6,7,8] 7 3 [.int .i64 0,.int .i64 0,.int .i64 0,.bool false] 94 (by kernel_rfl) rfl (by kernel_rfl) (by kernel_rfl) (by kernel_rfl) ?_
 repeat (refine V_load rfl rfl (fun _ => rfl) (zG rfl (zS rfl)) rfl rfl rfl rfl ?_)
 refine V_call rfl rfl rfl rfl rfl (zQ rfl rfl rfl) (fun _ => zQ rfl rfl rfl) (getInt_spec w0 D b s.1 h hr hl) (Kept.all _) rfl rfl rfl rfl ?_
 rintro _ _ ⟨h2,rfl,hr2,rfl⟩
 refine ⟨(by repeat (first | exact trivial | exact zG rfl (zS rfl) | exact zL rfl rfl rfl | exact zX rfl (by assumption) rfl | exact zH rfl (by assumption) rfl | exact zH rfl (by assumption) (by assumption) | refine ⟨?_,?_⟩)),?_⟩
 refine V_call rfl rfl rfl rfl rfl (zQ rfl rfl rfl) (fun _ => zQ rfl rfl rfl) (getInt_spec w0 D b (intS s.1) h2 hr2 (by omega)) (Kept.all _) rfl rfl rfl rfl ?_
 rintro _ _ ⟨h4,rfl,hr4,rfl⟩
 refine ⟨(by repeat (first | exact trivial | exact zG rfl (zS rfl) | exact zL rfl rfl rfl | exact zX rfl (by assumption) rfl | exact zH rfl (by assumption) rfl | exact zH rfl (by assumption) (by assumption) | refine ⟨?_,?_⟩)),?_⟩
 refine V_call rfl rfl rfl rfl rfl (zQ rfl rfl rfl) (fun _ => zQ rfl rfl rfl) (getInt_spec w0 D b (intS (intS s.1)) h4 hr4 (by omega)) (Kept.all _) rfl rfl rfl rfl ?_
 rintro _ _ ⟨h5,rfl,hr5,rfl⟩
 refine ⟨(by repeat (first | exact trivial | exact zG rfl (zS rfl) | exact zL rfl rfl rfl | exact zX rfl (by assumption) rfl | exact zH rfl (by assumption) rfl | exact zH rfl (by assumption) (by assumption) | refine ⟨?_,?_⟩)),?_⟩
 repeat (refine V_pure rfl (pv_build (vs := [_,_,_]) (cells := [_,_,_,_]) rfl rfl) (fun _ => pv_build (vs := [_,_,_]) (cells := [_,_,_,_]) rfl rfl) rfl rfl rfl rfl ?_)
 refine V_now rfl rfl rfl rfl (fun b3 => ?_)
 refine W_eff rfl rfl rfl rfl (ev_storeA (vs := [_,_,_,_]) rfl rfl rfl rfl (c := [_,_,_,_]) (Nat.le_of_ble_eq_true rfl) (c' := [_,_,_,_]) rfl) (Kept.all _) ?_
 rintro _ _ rfl
 refine ⟨(by repeat (first | exact trivial | exact zG rfl (zS rfl) | exact zL rfl rfl rfl | exact zX rfl (by assumption) rfl | exact zH rfl (by assumption) rfl | exact zH rfl (by assumption) (by assumption) | refine ⟨?_,?_⟩)),?_⟩
 repeat (refine yJ ?_)
 repeat (first | refine zF ?_ | refine zB ?_ | refine L_ld rfl rfl rfl rfl rfl ?_)
 refine zY rfl rfl (zQ rfl rfl rfl) (getInt_spec w0 D b (intS (intS (intS s.1))) h5 hr5 (by omega)) ?_
 rintro _ _ ⟨h6,rfl,hr6,rfl⟩
 have fin : ∀ {g : Env} {L R : Hp} {b2 : Nat} (od wr : Bool),look g 2 = some (.pointer (some ⟨b2,0,none⟩)) → od = (oneLk s).2.2 → wr = (oneLk s).1.write →
   Loads Tryz.prog w0 L 94 ⟨b2,0,none⟩ (.agg [.int .i64 (intV s.1),.int .i64 (intV (intS s.1)),.int .i64 (intV (intS (intS s.1))),.bool wr].toArray) →
   L = D + (boxR bc b + pt bo (.cells [.bool od].toArray 4 (0,0))) + h6 + fr + R →
   ∃ vs h R',ResOk Tryz.prog w0 g L [.cell 2 94] vs ∧ (∃ e E h2,oneV vs = .agg e.toArray ∧ Rep.rd w0 (D + E) (oneLk s).1 e ∧ RdrAt w0 D b (oneLk s).2.1 h2 ∧ D + (boxR bc b + pt bo (.cells [.bool (oneLk s).2.2].toArray 4 (0,0))) + E + h2 = h) ∧ L = h + fr + R' := by
  intro g L R b2 od wr hg ho hw hL he
  subst ho; subst hw
  exact ⟨[_],_,R,⟨⟨_,hg,hL⟩,trivial⟩,⟨_,0,h6,rfl,rfl,hr6,rfl⟩,zero_mid he⟩
 generalize hn : intV (intS (intS (intS s.1))) = n at fin
 have ho : ∀ x : Bool,x = oddF n → (s.2 || x) = (oneLk s).2.2 := by rintro x rfl; rw [← hn]; rfl
 have hw : ∀ x : Bool,x = decide (n = 1) → x = (oneLk s).1.write := by rintro x rfl; rw [← hn]; rfl
 have e1 : (oneLk s).1.write = decide (n = 1) := by rw [← hn]; rfl
 cases h2' : s.2
 ·rw [h2'] at ho
  have ho' : ∀ x : Bool,x = oddF n → x = (oneLk s).2.2 := fun x hx => by simpa using ho x hx
  repeat (first | refine zF ?_ | refine zB ?_ | refine zE ?_ | refine zK rfl rfl rfl ?_ | refine L_ld rfl rfl rfl rfl rfl ?_)
  refine yG rfl rfl (pv_neq rfl rfl) (fun n1 => ?_) (fun n1 => ?_)
  ·repeat (refine zK rfl rfl rfl ?_)
   refine yG rfl rfl (pv_neq rfl rfl) (fun n2 => ?_) (fun n2 => ?_)
   ·repeat (first | refine zF ?_ | refine zB ?_ | refine zE ?_ | refine zK rfl rfl rfl ?_ | refine L_st rfl rfl rfl (c' := [_]) rfl rfl rfl rfl ?_)
    refine L_no rfl rfl (pv_eql rfl rfl) n2 ?_
    repeat (first | refine zF ?_ | refine zB ?_ | refine zE ?_ | refine zZ rfl rfl rfl rfl rfl ?_ | refine zM ?_ | refine L_st rfl rfl rfl (c' := [_,_,_,_]) rfl rfl rfl rfl ?_ | refine L_ldA rfl (vs := [_,_,_,_]) rfl rfl rfl rfl rfl ?_ | refine L_stA rfl (vs := [_,_,_,_]) rfl rfl rfl rfl (c' := [_,_,_,_]) rfl rfl ?_)
    exact fin true false rfl (ho' _ (decide_eq_true ⟨n1,n2⟩).symm) (hw _ (decide_eq_false n2).symm) (zL rfl rfl rfl) yK.out
   ·repeat (first | refine zF ?_ | refine zB ?_ | refine zE ?_ | refine zK rfl rfl rfl ?_ | refine L_st rfl rfl rfl (c' := [_]) rfl rfl rfl rfl ?_)
    refine L_yes rfl rfl (pv_eql rfl rfl) (by omega) ?_
    repeat (first | refine zF ?_ | refine zB ?_ | refine zE ?_ | refine zZ rfl rfl rfl rfl rfl ?_ | refine zM ?_ | refine L_st rfl rfl rfl (c' := [_,_,_,_]) rfl rfl rfl rfl ?_ | refine L_ldA rfl (vs := [_,_,_,_]) rfl rfl rfl rfl rfl ?_ | refine L_stA rfl (vs := [_,_,_,_]) rfl rfl rfl rfl (c' := [_,_,_,_]) rfl rfl ?_)
    exact fin false true rfl (ho' _ (decide_eq_false (fun h => n2 h.2)).symm) (hw _ (decide_eq_true (by omega)).symm) (zL rfl rfl rfl) yK.out
  ·repeat (first | refine zF ?_ | refine zB ?_ | refine zE ?_ | refine zK rfl rfl rfl ?_ | refine L_skip rfl rfl ?_ | refine L_st rfl rfl rfl (c' := [_]) rfl rfl rfl rfl ?_)
   refine L_no rfl rfl (pv_eql rfl rfl) (by omega) ?_
   repeat (first | refine zF ?_ | refine zB ?_ | refine zE ?_ | refine zZ rfl rfl rfl rfl rfl ?_ | refine zM ?_ | refine L_st rfl rfl rfl (c' := [_,_,_,_]) rfl rfl rfl rfl ?_ | refine L_ldA rfl (vs := [_,_,_,_]) rfl rfl rfl rfl rfl ?_ | refine L_stA rfl (vs := [_,_,_,_]) rfl rfl rfl rfl (c' := [_,_,_,_]) rfl rfl ?_)
   exact fin false false rfl (ho' _ (decide_eq_false (fun h => n1 h.1)).symm) (hw _ (decide_eq_false (by omega)).symm) (zL rfl rfl rfl) yK.out
 ·rw [h2'] at ho
  have ho' : true = (oneLk s).2.2 := by simpa using ho _ rfl
  repeat (first | refine zF ?_ | refine zB ?_ | refine zE ?_ | refine zK rfl rfl rfl ?_ | refine L_ld rfl rfl rfl rfl rfl ?_ | refine L_skip rfl rfl ?_ | refine L_st rfl rfl rfl (c' := [_]) rfl rfl rfl rfl ?_)
  refine yG rfl rfl (pv_eql rfl rfl) (fun n2 => ?_) (fun n2 => ?_)
  ·repeat (first | refine zF ?_ | refine zB ?_ | refine zE ?_ | refine zZ rfl rfl rfl rfl rfl ?_ | refine zM ?_ | refine L_st rfl rfl rfl (c' := [_,_,_,_]) rfl rfl rfl rfl ?_ | refine L_ldA rfl (vs := [_,_,_,_]) rfl rfl rfl rfl rfl ?_ | refine L_stA rfl (vs := [_,_,_,_]) rfl rfl rfl rfl (c' := [_,_,_,_]) rfl rfl ?_)
   exact fin true true rfl ho' (hw _ (decide_eq_true n2).symm) (zL rfl rfl rfl) yK.out
  ·repeat (first | refine zF ?_ | refine zB ?_ | refine zE ?_ | refine zZ rfl rfl rfl rfl rfl ?_ | refine zM ?_ | refine L_st rfl rfl rfl (c' := [_,_,_,_]) rfl rfl rfl rfl ?_ | refine L_ldA rfl (vs := [_,_,_,_]) rfl rfl rfl rfl rfl ?_ | refine L_stA rfl (vs := [_,_,_,_]) rfl rfl rfl rfl (c' := [_,_,_,_]) rfl rfl ?_)
   exact fin true false rfl ho' (hw _ (decide_eq_false n2).symm) (zL rfl rfl rfl) yK.out
theorem getPrp1_spec (w0 : World) (D : Hp) (b bc : Nat) (s : St2) (h : Hp) (hl : s.1.left.length ≤ 1000000000000) (hr : RdrAt w0 D b s.1 h) :
  Spec Tryz.prog w0 53 [.pointer (some ⟨bc,0,none⟩)] (D + boxR bc b + h) (fun r h' => ∃ e E h2,r = .agg e.toArray ∧ Rep.rd w0 (D + E) (onePrp s).1 e ∧ RdrAt w0 D b (onePrp s).2.1 h2 ∧ D + boxR bc b + E + h2 = h') := by
 have hl1 := intS_len s.1
 have hl2 := intS_len (intS s.1)
 have hl3 := intS_len (intS (intS s.1))
 have hl4 := intS_len (intS (intS (intS s.1)))
 have hl5 := s5_len s.1
 have hl6 := intsS_len (s5 s.1)
 refine zN Tryz.func53 rfl Tryz.ntmps53 Tryz.results53 rfl fun fr => ?_
 repeat (first | refine zF ?_ | refine zB ?_ | refine zE ?_ | refine L_alloc (c := [_,_,_,_,_,_,_]) rfl rfl rfl (fun _ => ?_))
 refine hold_drawV [1,3,5,7,9,11,13,14] [0,2,4,6,8,10,1,3,5,7,9,11,12,13,14] 13 2 [.int .i64 0,.int .i64 0,.int .i64 0,.int .i64 0,.int .i64 0,.slice none 0 0,.slice none 0 0] 57 (by kernel_rfl) rfl (by kernel_rfl) (by kernel_rfl) (by kernel_rfl) ?_
 repeat (refine V_load rfl rfl (fun _ => rfl) (zG rfl (zS rfl)) rfl rfl rfl rfl ?_)
 refine V_call rfl rfl rfl rfl rfl (zQ rfl rfl rfl) (fun _ => zQ rfl rfl rfl) (getInt_spec w0 D b s.1 h hr hl) (Kept.all _) rfl rfl rfl rfl ?_
 rintro _ _ ⟨h2,rfl,hr2,rfl⟩
 refine ⟨(by repeat (first | exact trivial | exact zG rfl (zS rfl) | exact zL rfl rfl rfl | exact zX rfl (by assumption) rfl | exact zH rfl (by assumption) rfl | exact zH rfl (by assumption) (by assumption) | refine ⟨?_,?_⟩)),?_⟩
 refine V_call rfl rfl rfl rfl rfl (zQ rfl rfl rfl) (fun _ => zQ rfl rfl rfl) (getInt_spec w0 D b (intS s.1) h2 hr2 (by omega)) (Kept.all _) rfl rfl rfl rfl ?_
 rintro _ _ ⟨h4,rfl,hr4,rfl⟩
 refine ⟨(by repeat (first | exact trivial | exact zG rfl (zS rfl) | exact zL rfl rfl rfl | exact zX rfl (by assumption) rfl | exact zH rfl (by assumption) rfl | exact zH rfl (by assumption) (by assumption) | refine ⟨?_,?_⟩)),?_⟩
 refine V_call rfl rfl rfl rfl rfl (zQ rfl rfl rfl) (fun _ => zQ rfl rfl rfl) (getInt_spec w0 D b (intS (intS s.1)) h4 hr4 (by omega)) (Kept.all _) rfl rfl rfl rfl ?_
 rintro _ _ ⟨h5,rfl,hr5,rfl⟩
 refine ⟨(by repeat (first | exact trivial | exact zG rfl (zS rfl) | exact zL rfl rfl rfl | exact zX rfl (by assumption) rfl | exact zH rfl (by assumption) rfl | exact zH rfl (by assumption) (by assumption) | refine ⟨?_,?_⟩)),?_⟩
 refine V_call rfl rfl rfl rfl rfl (zQ rfl rfl rfl) (fun _ => zQ rfl rfl rfl) (getInt_spec w0 D b (intS (intS (intS s.1))) h5 hr5 (by omega)) (Kept.all _) rfl rfl rfl rfl ?_
 rintro _ _ ⟨h6,rfl,hr6,rfl⟩
 refine ⟨(by repeat (first | exact trivial | exact zG rfl (zS rfl) | exact zL rfl rfl rfl | exact zX rfl (by assumption) rfl | exact zH rfl (by assumption) rfl | exact zH rfl (by assumption) (by assumption) | refine ⟨?_,?_⟩)),?_⟩
 refine V_call rfl rfl rfl rfl rfl (zQ rfl rfl rfl) (fun _ => zQ rfl rfl rfl) (getInt_spec w0 D b (intS (intS (intS (intS s.1)))) h6 hr6 (by omega)) (Kept.all _) rfl rfl rfl rfl ?_
 rintro _ _ ⟨h7,rfl,hr7,rfl⟩
 refine ⟨(by repeat (first | exact trivial | exact zG rfl (zS rfl) | exact zL rfl rfl rfl | exact zX rfl (by assumption) rfl | exact zH rfl (by assumption) rfl | exact zH rfl (by assumption) (by assumption) | refine ⟨?_,?_⟩)),?_⟩
 refine V_call rfl rfl rfl rfl rfl (zQ rfl rfl rfl) (fun _ => zQ rfl rfl rfl) (getInts_spec w0 D b (s5 s.1) h7 hr7 (by omega)) (Kept.all _) rfl rfl rfl rfl ?_
 rintro _ _ ⟨a8,c8,h8,h9,rfl,ho9,hr8,rfl⟩
 refine ⟨(by repeat (first | exact trivial | exact zG rfl (zS rfl) | exact zL rfl rfl rfl | exact zX rfl (by assumption) rfl | exact zH rfl (by assumption) rfl | exact zH rfl (by assumption) (by assumption) | refine ⟨?_,?_⟩)),?_⟩
 repeat (refine V_pure rfl (pv_build (vs := [_,_,_,_,_,_]) (cells := [_,_,_,_,_,_,_]) rfl rfl) (fun _ => pv_build (vs := [_,_,_,_,_,_]) (cells := [_,_,_,_,_,_,_]) rfl rfl) rfl rfl rfl rfl ?_)
 refine V_now rfl rfl rfl rfl (fun b2 => ?_)
 refine W_eff rfl rfl rfl rfl (ev_storeA (vs := [_,_,_,_,_,_,_]) rfl rfl rfl rfl (c := [_,_,_,_,_,_,_]) (Nat.le_of_ble_eq_true rfl) (c' := [_,_,_,_,_,_,_]) rfl) (Kept.all _) ?_
 rintro _ _ rfl
 refine ⟨(by repeat (first | exact trivial | exact zG rfl (zS rfl) | exact zL rfl rfl rfl | exact zX rfl (by assumption) rfl | exact zH rfl (by assumption) rfl | exact zH rfl (by assumption) (by assumption) | refine ⟨?_,?_⟩)),?_⟩
 repeat (refine yJ ?_)
 repeat (first | refine zF ?_ | refine zB ?_ | refine L_ld rfl rfl rfl rfl rfl ?_ | refine L_clo rfl rfl rfl ?_)
 have hlist := listWr_spec w0 D b (fun _ => boxR bc b) 56 [.pointer (some ⟨bc,0,none⟩)] oneWr 16 ⟨by omega,by omega⟩ (intsS (s5 s.1),s.2) h8 hr8 (by simp only; omega) oneWr_len (fun s h hl hr => getWr1_spec w0 D b bc s h hl hr)
 refine zY rfl rfl (zQ rfl rfl rfl) hlist ?_
 rintro vw _ ⟨E,h10,h11,ho11,hr10,rfl⟩
 obtain ⟨aw,cw,rfl⟩ := ho11.shape
 repeat (first | refine zF ?_ | refine zB ?_ | refine zE ?_ | refine zZ rfl rfl rfl rfl rfl ?_ | refine zM ?_ | refine L_st rfl rfl rfl (c' := [_,_,_,_,_,_,_]) rfl rfl rfl rfl ?_ | refine L_ldA rfl (vs := [_,_,_,_,_,_,_]) rfl rfl rfl rfl rfl ?_ | refine L_stA rfl (vs := [_,_,_,_,_,_,_]) rfl rfl rfl rfl (c' := [_,_,_,_,_,_,_]) rfl rfl ?_)
 exact ⟨[_],D + boxR bc b + (E + h11 + h9) + h10,_,⟨⟨_,rfl,zL rfl rfl rfl⟩,trivial⟩,⟨_,E + h11 + h9,h10,rfl,⟨a8,c8,aw,cw,rfl,ho9.rdh.mono (R := D + E + h11) (by ac_rfl),(ho11.rd0).mono (R := h9) (by ac_rfl)⟩,hr10,rfl⟩,yK.out⟩
end Sl
end Go.Proofs.YtpkealohodeifaaGreat
namespace Go.Proofs.YtpkealohodeifaaGreat
open Go Go.RowKit
namespace Sl
set_option maxHeartbeats 8000000
set_option maxRecDepth 4000
set_option synthInstance.maxHeartbeats 400000
set_option synthInstance.maxSize 100000
attribute [local irreducible] Hold HoldL HoldW HoldV
theorem manyS_odd {α : Type} {f : St2 → α × St2} (hf : ∀ s,(f s).2.2 = s.2) : ∀ k s,(manyS f k s).2.2 = s.2
 | 0,_ => rfl
 | k + 1,s => by show (f (manyS f k s).2).2.2 = s.2; rw [hf,manyS_odd hf k s]
theorem listV_odd {α : Type} {f : St2 → α × St2} (hf : ∀ s,(f s).2.2 = s.2) (least : Nat) (s : St2) : (listV f least s).2.2 = s.2 := by
 unfold listV
 split
 ·rw [manyS_odd hf]
 ·rfl
theorem getBlocks_spec (w0 : World) (D : Hp) (b : Nat) (s : St2) (h : Hp) (hr : RdrAt w0 D b s.1 h) (hl : s.1.left.length ≤ 1000000000000) :
  Spec Tryz.prog w0 48 [.pointer (some ⟨b,0,none⟩)] (D + h) (fun r h' => ∃ E h2 h3,OwL w0 (D + E) (listV oneBlk 16 s).1 r h3 ∧ RdrAt w0 D b (listV oneBlk 16 s).2.1 h2 ∧ D + E + h2 + h3 = h') := by
 refine zN Tryz.func48 rfl Tryz.ntmps48 Tryz.results48 rfl fun fr => ?_
 repeat (first | refine zF ?_ | refine zB ?_ | refine zE ?_ | refine zK rfl rfl rfl ?_ | refine L_ld rfl rfl rfl rfl rfl ?_ | refine L_box rfl (c := [_]) rfl rfl rfl (fun _ => ?_) | refine L_clo rfl rfl rfl ?_)
 rename_i bc
 refine zY rfl rfl (zQ rfl rfl rfl) (listBlk_spec w0 D b (fun _ => boxR bc b) 142 [.pointer (some ⟨bc,0,none⟩)] oneBlk 16 ⟨by omega,by omega⟩ s h hr hl oneBlk_len (fun s h hl hr => getBlk1_spec w0 D b bc s h hl hr)) ?_
 rintro vw _ ⟨E,h2,h3,ho,hr2,rfl⟩
 repeat (first | refine zE ?_ | refine zK rfl rfl rfl ?_ | refine zM ?_)
 exact ⟨[_],D + E + h2 + h3,_,⟨rfl,trivial⟩,⟨E,h2,h3,ho,hr2,rfl⟩,yK.out⟩
theorem getKept_spec (w0 : World) (D : Hp) (b : Nat) (s : St2) (h : Hp) (hr : RdrAt w0 D b s.1 h) (hl : s.1.left.length ≤ 1000000000000) :
  Spec Tryz.prog w0 49 [.pointer (some ⟨b,0,none⟩)] (D + h) (fun r h' => ∃ E h2 h3,OwL w0 (D + E) (listV oneKpt 24 s).1 r h3 ∧ RdrAt w0 D b (listV oneKpt 24 s).2.1 h2 ∧ D + E + h2 + h3 = h') := by
 refine zN Tryz.func49 rfl Tryz.ntmps49 Tryz.results49 rfl fun fr => ?_
 repeat (first | refine zF ?_ | refine zB ?_ | refine zE ?_ | refine zK rfl rfl rfl ?_ | refine L_ld rfl rfl rfl rfl rfl ?_ | refine L_box rfl (c := [_]) rfl rfl rfl (fun _ => ?_) | refine L_clo rfl rfl rfl ?_)
 rename_i bc
 refine zY rfl rfl (zQ rfl rfl rfl) (listKpt_spec w0 D b (fun _ => boxR bc b) 144 [.pointer (some ⟨bc,0,none⟩)] oneKpt 24 ⟨by omega,by omega⟩ s h hr hl oneKpt_len (fun s h hl hr => getKpt1_spec w0 D b bc s h hl hr)) ?_
 rintro vw _ ⟨E,h2,h3,ho,hr2,rfl⟩
 repeat (first | refine zE ?_ | refine zK rfl rfl rfl ?_ | refine zM ?_)
 exact ⟨[_],D + E + h2 + h3,_,⟨rfl,trivial⟩,⟨E,h2,h3,ho,hr2,rfl⟩,yK.out⟩
def OwShd (w0 : World) (X : Hp) (s : Shd) (e : List Value) (h : Hp) : Prop := ∃ a1 c1 a2 c2 a3 c3 a4 c4 a5 c5 a6 c6 a7 c7 h1 h2 h3 h4 h5 h6 h7,
 e = cellsS s (.slice a1 s.blocks.length c1) (.slice a2 s.kept.length c2) (.slice a3 s.locks.length c3) (.slice a4 s.preps.length c4) (.slice a5 s.dead.length c5) (.slice a6 s.outs.length c6) (.slice a7 s.sess.length c7) ∧
 OwL w0 X s.blocks (.slice a1 s.blocks.length c1) h1 ∧ OwL w0 X s.kept (.slice a2 s.kept.length c2) h2 ∧ OwL w0 X s.locks (.slice a3 s.locks.length c3) h3 ∧ OwL w0 X s.preps (.slice a4 s.preps.length c4) h4 ∧ OwL w0 X s.dead (.slice a5 s.dead.length c5) h5 ∧ OwL w0 X s.outs (.slice a6 s.outs.length c6) h6 ∧ OwL w0 X s.sess (.slice a7 s.sess.length c7) h7 ∧
 h = h1 + h2 + h3 + h4 + h5 + h6 + h7
theorem OwShd.rd {w0 : World} {X h : Hp} {s : Shd} {e : List Value} (H : OwShd w0 X s e h) : RdShd w0 (X + h) s e := by
 obtain ⟨a1,c1,a2,c2,a3,c3,a4,c4,a5,c5,a6,c6,a7,c7,h1,h2,h3,h4,h5,h6,h7,rfl,o1,o2,o3,o4,o5,o6,o7,rfl⟩ := H
 exact ⟨a1,c1,a2,c2,a3,c3,a4,c4,a5,c5,a6,c6,a7,c7,rfl,o1.rd0.mono (R := h2 + h3 + h4 + h5 + h6 + h7) (by ac_rfl),o2.rd0.mono (R := h1 + h3 + h4 + h5 + h6 + h7) (by ac_rfl),o3.rd0.mono (R := h1 + h2 + h4 + h5 + h6 + h7) (by ac_rfl),o4.rd0.mono (R := h1 + h2 + h3 + h5 + h6 + h7) (by ac_rfl),
  o5.rd0.mono (R := h1 + h2 + h3 + h4 + h6 + h7) (by ac_rfl),o6.rd0.mono (R := h1 + h2 + h3 + h4 + h5 + h7) (by ac_rfl),o7.rd0.mono (R := h1 + h2 + h3 + h4 + h5 + h6) (by ac_rfl)⟩
def Shd.zero : Shd := ⟨0,0,0,[],[],[],[],[],[],[]⟩
def g3 (bs : List Bt) : RS := intS (intS (intS ⟨bs,false⟩))
def gB (bs : List Bt) : List Blk × St2 := listV oneBlk 16 (g3 bs,false)
def gK (bs : List Bt) : List Kpt × St2 := listV oneKpt 24 ((gB bs).2.1,false)
def gL (bs : List Bt) : List Lk × St2 := listV oneLk 32 ((gK bs).2.1,false)
def gP (bs : List Bt) : List Prp × St2 := listV onePrp 56 (gL bs).2
def gO (bs : List Bt) : List Outp × St2 := listV oneOut 32 (intsS (gP bs).2.1,(gP bs).2.2)
def gX (bs : List Bt) : List Ses × St2 := listV oneSes 32 (gO bs).2
def getS (bs : List Bt) : Shd := ⟨intV ⟨bs,false⟩,intV (intS ⟨bs,false⟩),intV (intS (intS ⟨bs,false⟩)),(gB bs).1,(gK bs).1,(gL bs).1,(gP bs).1,intsV (gP bs).2.1,(gO bs).1,(gX bs).1⟩
def getF (bs : List Bt) : Shd × Int := if (gX bs).2.2 = true ∨ endV (gX bs).2.1 ≠ 0 then (Shd.zero,4) else (getS bs,0)
theorem get22_spec (w0 : World) (X : Hp) (v : Value) (bs : List Bt) (hv : RdL w0 X v bs) (hl : bs.length ≤ 1000000000000) :
  Spec Tryz.prog w0 12 [v] X (fun r h' => ∃ e D h,r = .tuple #[.agg e.toArray,.int .i64 (getF bs).2] ∧ OwShd w0 D (getF bs).1 e h ∧ X + (D + h) = h') := by
 have l1 := intS_len ⟨bs,false⟩
 have l2 := intS_len (intS ⟨bs,false⟩)
 have l3 : (g3 bs).left.length ≤ _ := intS_len (intS (intS ⟨bs,false⟩))
 have l4 : (gB bs).2.1.left.length ≤ (g3 bs).left.length := listV_len oneBlk_len 16 _
 have l5 : (gK bs).2.1.left.length ≤ (gB bs).2.1.left.length := listV_len oneKpt_len 24 _
 have l6 : (gL bs).2.1.left.length ≤ (gK bs).2.1.left.length := listV_len oneLk_len 32 _
 have l7 : (gP bs).2.1.left.length ≤ (gL bs).2.1.left.length := listV_len onePrp_len 56 _
 have l8 := intsS_len (gP bs).2.1
 have l9 : (gO bs).2.1.left.length ≤ (intsS (gP bs).2.1).left.length := listV_len oneOut_len 32 _
 have l0 : (⟨bs,false⟩ : RS).left.length ≤ 1000000000000 := hl
 have oP : (gP bs).2.2 = (gL bs).2.2 := listV_odd (f := onePrp) (fun s => by show (listV oneWr 16 _).2.2 = _; rw [listV_odd (fun s => rfl)]) 56 _
 have oO : (gO bs).2.2 = (gL bs).2.2 := by rw [← oP]; exact listV_odd (f := oneOut) (fun s => rfl) 32 _
 have oX : (gX bs).2.2 = (gL bs).2.2 := by rw [← oO]; exact listV_odd (f := oneSes) (fun s => rfl) 32 _
 have hread := read02_spec w0 X v bs hv hl
 obtain ⟨a,c,rfl⟩ := hv.shape
 refine zN Tryz.func12 rfl Tryz.ntmps12 Tryz.results12 rfl fun fr => ?_
 repeat (first | refine zF ?_ | refine zB ?_ | refine zE ?_ | refine zK rfl rfl rfl ?_ | refine L_alloc (c := [_,_,_,_,_,_,_,_,_,_]) rfl rfl rfl (fun _ => ?_))
 refine zY rfl rfl (zQ rfl rfl rfl) hread ?_
 rintro _ _ ⟨b,D,h0,rfl,hr0,rfl⟩
 repeat (first | refine zF ?_ | refine zB ?_ | refine zE ?_ | refine L_st rfl rfl rfl (c' := [_]) rfl rfl rfl rfl ?_ | refine L_alloc (c := [_]) rfl rfl rfl (fun _ => ?_))
 rename_i b2 b4 b5
 refine hold_drawV [1,3,5,7,8] [0,2,4,1,3,5,6,7,8] 7 6 [.int .i64 0,.int .i64 0,.int .i64 0,.slice none 0 0,.slice none 0 0,.slice none 0 0,.slice none 0 0,.slice none 0 0,.slice none 0 0,.slice none 0 0] 33 (by kernel_rfl) rfl (by kernel_rfl) (by kernel_rfl) (by kernel_rfl) ?_
 repeat (refine V_load rfl rfl (fun _ => rfl) (zG rfl (zS rfl)) rfl rfl rfl rfl ?_)
 refine V_call rfl rfl rfl rfl rfl (zQ rfl rfl rfl) (fun _ => zQ rfl rfl rfl) (getInt_spec w0 D b ⟨bs,false⟩ h0 hr0 hl) (Kept.all _) rfl rfl rfl rfl ?_
 rintro _ _ ⟨h1,rfl,hr1,rfl⟩
 refine ⟨(by repeat (first | exact trivial | exact zG rfl (zS rfl) | exact zL rfl rfl rfl | exact zX rfl (by assumption) rfl | exact zH rfl (by assumption) rfl | exact zH rfl (by assumption) (by assumption) | refine ⟨?_,?_⟩)),?_⟩
 refine V_call rfl rfl rfl rfl rfl (zQ rfl rfl rfl) (fun _ => zQ rfl rfl rfl) (getInt_spec w0 D b (intS ⟨bs,false⟩) h1 hr1 (by omega)) (Kept.all _) rfl rfl rfl rfl ?_
 rintro _ _ ⟨h2,rfl,hr2,rfl⟩
 refine ⟨(by repeat (first | exact trivial | exact zG rfl (zS rfl) | exact zL rfl rfl rfl | exact zX rfl (by assumption) rfl | exact zH rfl (by assumption) rfl | exact zH rfl (by assumption) (by assumption) | refine ⟨?_,?_⟩)),?_⟩
 refine V_call rfl rfl rfl rfl rfl (zQ rfl rfl rfl) (fun _ => zQ rfl rfl rfl) (getInt_spec w0 D b (intS (intS ⟨bs,false⟩)) h2 hr2 (by omega)) (Kept.all _) rfl rfl rfl rfl ?_
 rintro _ _ ⟨h3,rfl,hr3,rfl⟩
 refine ⟨(by repeat (first | exact trivial | exact zG rfl (zS rfl) | exact zL rfl rfl rfl | exact zX rfl (by assumption) rfl | exact zH rfl (by assumption) rfl | exact zH rfl (by assumption) (by assumption) | refine ⟨?_,?_⟩)),?_⟩
 repeat (refine V_pure rfl (pv_build (vs := [_,_,_]) (cells := [_,_,_,_,_,_,_,_,_,_]) rfl rfl) (fun _ => pv_build (vs := [_,_,_]) (cells := [_,_,_,_,_,_,_,_,_,_]) rfl rfl) rfl rfl rfl rfl ?_)
 refine V_now rfl rfl rfl rfl (fun b6 => ?_)
 refine W_eff rfl rfl rfl rfl (ev_storeA (vs := [_,_,_,_,_,_,_,_,_,_]) rfl rfl rfl rfl (c := [_,_,_,_,_,_,_,_,_,_]) (Nat.le_of_ble_eq_true rfl) (c' := [_,_,_,_,_,_,_,_,_,_]) rfl) (Kept.all _) ?_
 rintro _ _ rfl
 refine ⟨(by repeat (first | exact trivial | exact zG rfl (zS rfl) | exact zL rfl rfl rfl | exact zX rfl (by assumption) rfl | exact zH rfl (by assumption) rfl | exact zH rfl (by assumption) (by assumption) | refine ⟨?_,?_⟩)),?_⟩
 repeat (refine yJ ?_)
 repeat (refine zF ?_)
 refine yC [1,3,5,7] [0,2,1,4,3,5,6,7] (by kernel_rfl) rfl (by kernel_rfl) (by kernel_rfl) ?_
 repeat (refine W_load rfl rfl rfl rfl (yF rfl) (zG rfl (zS rfl)) ?_)
 refine W_call rfl rfl rfl rfl (zQ rfl rfl rfl) (getBlocks_spec w0 D b (g3 bs,false) h3 hr3 (by show (g3 bs).left.length ≤ _; omega)) (Kept.all _) ?_
 rintro vb _ ⟨E1,h4,hb,ob,hr4,rfl⟩
 obtain ⟨ab,cb,rfl⟩ := ob.shape
 refine ⟨(by repeat (first | exact trivial | exact zG rfl (zS rfl) | exact zL rfl rfl rfl | exact zX rfl (by assumption) rfl | exact zH rfl (by assumption) rfl | exact zH rfl (by assumption) (by assumption) | refine ⟨?_,?_⟩)),?_⟩
 repeat (refine yE rfl rfl rfl rfl (yA rfl rfl rfl) ?_)
 refine W_call rfl rfl rfl rfl (zQ rfl rfl rfl) (getKept_spec w0 D b ((gB bs).2.1,false) h4 hr4 (by show (gB bs).2.1.left.length ≤ _; omega)) (Kept.all _) ?_
 rintro vk _ ⟨E2,h5,hk,ok,hr5,rfl⟩
 obtain ⟨ak,ck,rfl⟩ := ok.shape
 refine ⟨(by repeat (first | exact trivial | exact zG rfl (zS rfl) | exact zL rfl rfl rfl | exact zX rfl (by assumption) rfl | exact zH rfl (by assumption) rfl | exact zH rfl (by assumption) (by assumption) | refine ⟨?_,?_⟩)),?_⟩
 skip
 refine W_eff rfl rfl rfl rfl (ev_store (c' := [_,_,_,_,_,_,_,_,_,_]) rfl rfl rfl rfl rfl rfl) (Kept.all _) ?_
 rintro _ _ rfl
 refine ⟨(by repeat (first | exact trivial | exact zG rfl (zS rfl) | exact zL rfl rfl rfl | exact zX rfl (by assumption) rfl | exact zH rfl (by assumption) rfl | exact zH rfl (by assumption) (by assumption) | refine ⟨?_,?_⟩)),?_⟩
 repeat (refine yE rfl rfl rfl rfl (yA rfl rfl rfl) ?_)
 refine W_eff rfl rfl rfl rfl (ev_store (c' := [_,_,_,_,_,_,_,_,_,_]) rfl rfl rfl rfl rfl rfl) (Kept.all _) ?_
 rintro _ _ rfl
 refine ⟨(by repeat (first | exact trivial | exact zG rfl (zS rfl) | exact zL rfl rfl rfl | exact zX rfl (by assumption) rfl | exact zH rfl (by assumption) rfl | exact zH rfl (by assumption) (by assumption) | refine ⟨?_,?_⟩)),?_⟩
 repeat (refine yJ ?_)
 repeat (first | refine zF ?_ | refine zB ?_ | refine L_ld rfl rfl rfl rfl rfl ?_ | refine L_clo rfl rfl rfl ?_)
 refine zY rfl rfl (zQ rfl rfl rfl) (listLk_spec w0 D b (fun od => boxR b4 b + pt b5 (.cells [.bool od].toArray 4 (0,0))) 51 [.pointer (some ⟨b4,0,none⟩),.pointer (some ⟨b5,0,none⟩)] oneLk 32 ⟨by omega,by omega⟩ ((gK bs).2.1,false) h5 hr5 (by show (gK bs).2.1.left.length ≤ _; omega) oneLk_len (fun s h hl hr => getLk1_spec w0 D b b4 b5 s h hl hr)) ?_
 rintro vl _ ⟨E3,h6,hlk,ol,hr6,rfl⟩
 obtain ⟨al,cl,rfl⟩ := ol.shape
 repeat (first | refine zF ?_ | refine zB ?_ | refine zE ?_ | refine zZ rfl rfl rfl rfl rfl ?_ | refine L_ld rfl rfl rfl rfl rfl ?_ | refine L_st rfl rfl rfl (c' := [_,_,_,_,_,_,_,_,_,_]) rfl rfl rfl rfl ?_ | refine L_clo rfl rfl rfl ?_)
 refine zY rfl rfl (zQ rfl rfl rfl) (listPrp_spec w0 D b (fun _ => boxR b4 b) 53 [.pointer (some ⟨b4,0,none⟩)] onePrp 56 ⟨by omega,by omega⟩ (gL bs).2 h6 hr6 (by omega) onePrp_len (fun s h hl hr => getPrp1_spec w0 D b b4 s h hl hr)) ?_
 rintro vp _ ⟨E4,h7,hp,op,hr7,rfl⟩
 obtain ⟨ap,cp,rfl⟩ := op.shape
 repeat (first | refine zF ?_ | refine zB ?_ | refine zE ?_ | refine zZ rfl rfl rfl rfl rfl ?_ | refine L_ld rfl rfl rfl rfl rfl ?_ | refine L_st rfl rfl rfl (c' := [_,_,_,_,_,_,_,_,_,_]) rfl rfl rfl rfl ?_)
 refine zY rfl rfl (zQ rfl rfl rfl) (getInts_spec w0 D b (gP bs).2.1 h7 hr7 (by omega)) ?_
 rintro _ _ ⟨ad,cd,h8,hd,rfl,od,hr8,rfl⟩
 repeat (first | refine zF ?_ | refine zB ?_ | refine zE ?_ | refine zZ rfl rfl rfl rfl rfl ?_ | refine L_ld rfl rfl rfl rfl rfl ?_ | refine L_st rfl rfl rfl (c' := [_,_,_,_,_,_,_,_,_,_]) rfl rfl rfl rfl ?_ | refine L_clo rfl rfl rfl ?_)
 refine zY rfl rfl (zQ rfl rfl rfl) (listOut_spec w0 D b (fun _ => boxR b4 b) 59 [.pointer (some ⟨b4,0,none⟩)] oneOut 32 ⟨by omega,by omega⟩ (intsS (gP bs).2.1,(gP bs).2.2) h8 hr8 (by show (intsS (gP bs).2.1).left.length ≤ _; omega) oneOut_len (fun s h hl hr => getOut1_spec w0 D b b4 s h hl hr)) ?_
 rintro vo _ ⟨E5,h9,hou,oo,hr9,rfl⟩
 obtain ⟨ao,co,rfl⟩ := oo.shape
 repeat (first | refine zF ?_ | refine zB ?_ | refine zE ?_ | refine zZ rfl rfl rfl rfl rfl ?_ | refine L_ld rfl rfl rfl rfl rfl ?_ | refine L_st rfl rfl rfl (c' := [_,_,_,_,_,_,_,_,_,_]) rfl rfl rfl rfl ?_ | refine L_clo rfl rfl rfl ?_)
 refine zY rfl rfl (zQ rfl rfl rfl) (listSes_spec w0 D b (fun _ => boxR b4 b) 61 [.pointer (some ⟨b4,0,none⟩)] oneSes 32 ⟨by omega,by omega⟩ (gO bs).2 h9 hr9 (by omega) oneSes_len (fun s h hl hr => getSes1_spec w0 D b b4 s h hl hr)) ?_
 rintro vx _ ⟨E6,h10,hx,ox,hr10,rfl⟩
 obtain ⟨ax,cx,rfl⟩ := ox.shape
 repeat (first | refine zF ?_ | refine zB ?_ | refine zE ?_ | refine zK rfl rfl rfl ?_ | refine zZ rfl rfl rfl rfl rfl ?_ | refine L_ld rfl rfl rfl rfl rfl ?_ | refine L_st rfl rfl rfl (c' := [_,_,_,_,_,_,_,_,_,_]) rfl rfl rfl rfl ?_)
 have bad : ((gX bs).2.2 = true ∨ endV (gX bs).2.1 ≠ 0) → ∀ {g : Env} {L R : Hp},look g 2 = some (.pointer (some ⟨b2,0,none⟩)) → look g 3 = some (.int .i64 4) → Loads Tryz.prog w0 L 33 ⟨b2,0,none⟩ (.agg (cellsS Shd.zero (.slice none 0 0) (.slice none 0 0) (.slice none 0 0) (.slice none 0 0) (.slice none 0 0) (.slice none 0 0) (.slice none 0 0)).toArray) →
   L = X + fr + R → ∃ vs h R',ResOk Tryz.prog w0 g L [.cell 2 33,.tmp 3] vs ∧ (∃ e D h2,oneV vs = .tuple #[.agg e.toArray,.int .i64 (getF bs).2] ∧ OwShd w0 D (getF bs).1 e h2 ∧ X + (D + h2) = h) ∧ L = h + fr + R' := by
  intro hb g L R h2' h3' hL he
  refine ⟨[_,_],X + (0 + (0 + 0 + 0 + 0 + 0 + 0 + 0)),R,⟨⟨_,h2',hL⟩,h3',trivial⟩,⟨_,0,0 + 0 + 0 + 0 + 0 + 0 + 0,by unfold getF; rw [if_pos hb]; rfl,?_,rfl⟩,by simp only [yB]; exact he⟩
  unfold getF
  rw [if_pos hb]
  exact ⟨none,0,none,0,none,0,none,0,none,0,none,0,none,0,0,0,0,0,0,0,0,rfl,OwL.nil _ _,OwL.nil _ _,OwL.nil _ _,OwL.nil _ _,OwL.nil _ _,OwL.nil _ _,OwL.nil _ _,rfl⟩
 generalize hod : (listV oneLk 32 ((gK bs).2.1,false)).2.2 = odv
 have hod' : (gX bs).2.2 = odv := by rw [oX]; exact hod
 cases odv
 ·repeat (refine L_ld rfl rfl rfl rfl rfl ?_)
  refine zY rfl rfl (zQ rfl rfl rfl) (end02_spec w0 D b (gX bs).2.1 h10 hr10) ?_
  rintro _ _ ⟨rfl,rfl⟩
  refine yG rfl rfl (pv_neq rfl rfl) (fun n1 => ?_) (fun n1 => ?_)
  ·repeat (first | refine zF ?_ | refine zB ?_ | refine zE ?_ | refine zK rfl rfl rfl ?_ | refine zM ?_ | refine zJ rfl ?_ | refine L_build (vs := []) (cells := [_,_,_,_,_,_,_,_,_,_]) rfl rfl rfl rfl ?_ | refine L_stA rfl (vs := [_,_,_,_,_,_,_,_,_,_]) rfl rfl rfl rfl (c' := [_,_,_,_,_,_,_,_,_,_]) rfl rfl ?_)
   exact bad (.inr n1) rfl rfl (zL rfl rfl rfl) yK.out
  ·repeat (first | refine zF ?_ | refine zB ?_ | refine zE ?_ | refine zK rfl rfl rfl ?_ | refine zP ?_ | refine zM ?_ | refine zI rfl ?_ | refine L_ldA rfl (vs := [_,_,_,_,_,_,_,_,_,_]) rfl rfl rfl rfl rfl ?_ | refine L_stA rfl (vs := [_,_,_,_,_,_,_,_,_,_]) rfl rfl rfl rfl (c' := [_,_,_,_,_,_,_,_,_,_]) rfl rfl ?_)
   have hf : getF bs = (getS bs,0) := by unfold getF; rw [if_neg (by rw [hod']; simp; simpa using n1)]
   refine ⟨[_,_],X + ((D + E1 + E2 + E3 + E4 + E5 + E6) + (hb + hk + hlk + hp + hd + hou + hx)),_,⟨⟨_,rfl,zL rfl rfl rfl⟩,rfl,trivial⟩,⟨_,D + E1 + E2 + E3 + E4 + E5 + E6,hb + hk + hlk + hp + hd + hou + hx,by rw [hf]; rfl,?_,rfl⟩,yK.out⟩
   rw [hf]
   exact ⟨ab,cb,ak,ck,al,cl,ap,cp,ad,cd,ao,co,ax,cx,hb,hk,hlk,hp,hd,hou,hx,rfl,ob.mono (R := E2 + E3 + E4 + E5 + E6) (by ac_rfl),ok.mono (R := E1 + E3 + E4 + E5 + E6) (by ac_rfl),ol.plainL,op.mono (R := E1 + E2 + E3 + E5 + E6) (by ac_rfl),od.plainI,oo.mono (R := E1 + E2 + E3 + E4 + E6) (by ac_rfl),ox.mono (R := E1 + E2 + E3 + E4 + E5) (by ac_rfl),rfl⟩
 ·repeat (first | refine zF ?_ | refine zB ?_ | refine zE ?_ | refine zK rfl rfl rfl ?_ | refine L_skip rfl rfl ?_ | refine zM ?_ | refine zJ rfl ?_ | refine L_build (vs := []) (cells := [_,_,_,_,_,_,_,_,_,_]) rfl rfl rfl rfl ?_ | refine L_stA rfl (vs := [_,_,_,_,_,_,_,_,_,_]) rfl rfl rfl rfl (c' := [_,_,_,_,_,_,_,_,_,_]) rfl rfl ?_)
  exact bad (.inl hod') rfl rfl (zL rfl rfl rfl) yK.out
end Sl
end Go.Proofs.YtpkealohodeifaaGreat
namespace Go.Proofs.YtpkealohodeifaaGreat
open Go Go.RowKit
namespace Sl
theorem take8 {n : Int} {r : List Bt} : takeOk ⟨be8 n ++ r,false⟩ 8 = true ∧ takeV ⟨be8 n ++ r,false⟩ 8 = be8 n ∧ takeS ⟨be8 n ++ r,false⟩ 8 = ⟨r,false⟩ := by
 have h : takeOk ⟨be8 n ++ r,false⟩ 8 = true := by
  simp [takeOk,be8_length]; omega
 refine ⟨h,?_,?_⟩
 ·unfold takeV; rw [if_pos h]
  show (be8 n ++ r).take 8 = be8 n
  rw [List.take_left' (be8_length n)]
 ·unfold takeS; rw [if_pos h]
  show RS.mk ((be8 n ++ r).drop 8) false = _
  rw [List.drop_left' (be8_length n)]
theorem dInt {n : Int} (h : I64 n) {r : List Bt} : intV ⟨be8 n ++ r,false⟩ = n ∧ intS ⟨be8 n ++ r,false⟩ = ⟨r,false⟩ := by
 obtain ⟨h1,h2,h3⟩ := take8 (n := n) (r := r)
 refine ⟨?_,h3⟩
 unfold intV; rw [if_pos h1,h2]
 exact dec8_be8 n h.1 h.2
theorem dBlob {d : List Bt} (h : d.length ≤ 9000000000000000000) {r : List Bt} : blobV ⟨blob d ++ r,false⟩ = d ∧ blobS ⟨blob d ++ r,false⟩ = ⟨r,false⟩ := by
 have hi : I64 (d.length : Int) := by unfold I64; omega
 obtain ⟨h1,h2⟩ := dInt hi (r := d ++ r)
 have e : blob d ++ r = be8 d.length ++ (d ++ r) := by unfold blob; rw [List.append_assoc]
 have hok : takeOk ⟨d ++ r,false⟩ (d.length : Int) = true := by simp [takeOk]; omega
 rw [e]
 constructor
 ·unfold blobV; rw [h1,h2]; unfold takeV; rw [if_pos hok]; simp
 ·unfold blobS; rw [h1,h2]; unfold takeS; rw [if_pos hok]; simp
theorem dMany {α : Type} {one : St2 → α × St2} {enc : α → List Bt} {odd : Bool} {l : List α} (h : ∀ x ∈ l,∀ r,one (⟨enc x ++ r,false⟩,odd) = (x,(⟨r,false⟩,odd))) (r : List Bt) :
  ∀ k,k ≤ l.length → manyS one k (⟨(l.map enc).flatten ++ r,false⟩,odd) = (l.take k,(⟨((l.drop k).map enc).flatten ++ r,false⟩,odd))
 | 0,_ => by simp [manyS]
 | k + 1,hk => by
  have ih := dMany h r k (by omega)
  have hd : l.drop k = l[k] :: l.drop (k + 1) := List.drop_eq_getElem_cons (by omega)
  unfold manyS
  rw [ih,hd,List.map_cons,List.flatten_cons,List.append_assoc]
  rw [h l[k] (List.getElem_mem _)]
  rw [List.take_succ_eq_append_getElem (by omega)]
theorem dList {α : Type} {one : St2 → α × St2} {enc : α → List Bt} {least : Nat} {odd : Bool} {l : List α} (h : ∀ x ∈ l,∀ r,one (⟨enc x ++ r,false⟩,odd) = (x,(⟨r,false⟩,odd))) (hle : ∀ x ∈ l,least ≤ (enc x).length) (hl : 1 ≤ least) (hll : l.length ≤ 9000000000000000000) (r : List Bt) :
  listV one least (⟨encL' enc l ++ r,false⟩,odd) = (l,(⟨r,false⟩,odd)) := by
 have hi : I64 (l.length : Int) := by unfold I64; omega
 obtain ⟨h1,h2⟩ := dInt hi (r := (l.map enc).flatten ++ r)
 have e : encL' enc l ++ r = be8 l.length ++ ((l.map enc).flatten ++ r) := by unfold encL'; rw [List.append_assoc]
 have hlen : l.length * least ≤ (l.map enc).flatten.length := by
  clear h1 h2 e hi hll h
  induction l with
  | nil => simp
  | cons x l ih =>
   have := ih (fun y hy => hle y (by simp [hy]))
   have := hle x (by simp)
   simp only [List.map_cons,List.flatten_cons,List.length_append,List.length_cons,Nat.succ_mul]
   omega
 unfold listV
 rw [e]
 simp only [h1,h2]
 rw [if_pos]
 ·have := dMany h r l.length (Nat.le_refl _)
  simp only [Int.toNat_natCast]
  rw [this]
  simp
 ·refine ⟨by omega,?_⟩
  have h3 : l.length ≤ ((l.map enc).flatten ++ r).length / least := by
   rw [Nat.le_div_iff_mul_le (by omega),List.length_append]; omega
  exact_mod_cast h3
theorem many_eq {α : Type} (f : RS → α × RS) (b : Bool) : ∀ k s,manyS (fun s : St2 => ((f s.1).1,((f s.1).2,s.2))) k (s,b) = ((many f k s).1,((many f k s).2,b))
 | 0,_ => rfl
 | k + 1,s => by unfold manyS many; rw [many_eq f b k s]
theorem dInts {l : List Int} (h : ∀ x ∈ l,I64 x) (hll : l.length ≤ 9000000000000000000) (r : List Bt) : intsV ⟨encInts l ++ r,false⟩ = l ∧ intsS ⟨encInts l ++ r,false⟩ = ⟨r,false⟩ := by
 have hi : I64 (l.length : Int) := by unfold I64; omega
 obtain ⟨h1,h2⟩ := dInt hi (r := (l.map be8).flatten ++ r)
 have e : encInts l ++ r = be8 l.length ++ ((l.map be8).flatten ++ r) := by unfold encInts; rw [List.append_assoc]
 have hlen := encInts_length l
 rw [encInts,List.length_append,be8_length] at hlen
 have hok : intsOk ⟨encInts l ++ r,false⟩ = true := by
  unfold intsOk
  rw [e,h1,h2]
  simp only [Bool.not_false,Bool.true_and,decide_eq_true_eq,List.length_append]
  omega
 have hm := dMany (one := fun s : St2 => (intV s.1,(intS s.1,s.2))) (enc := be8) (odd := false) (l := l) (fun x hx r => by
  obtain ⟨k1,k2⟩ := dInt (h x hx) (r := r)
  simp only [k1,k2]) r l.length (Nat.le_refl _)
 have hq := many_eq (fun s => (intV s,intS s)) false l.length ⟨(l.map be8).flatten ++ r,false⟩
 rw [hm] at hq
 simp only [List.take_length,List.drop_length,List.map_nil,List.flatten_nil,List.nil_append,Prod.mk.injEq,and_true] at hq
 constructor
 ·unfold intsV; rw [if_pos hok,e,h1,h2,Int.toNat_natCast,← hq.1]
 ·unfold intsS; rw [if_pos hok,e,h1,h2,Int.toNat_natCast,← hq.2]
def SmallB (d : List Bt) : Prop := d.length ≤ 1000000000
structure ShdIn (s : Shd) : Prop where
 nums : I64 s.lo ∧ I64 s.hi ∧ I64 s.epoch
 blocks : ∀ x ∈ s.blocks,I64 x.no ∧ SmallB x.data
 kept : ∀ x ∈ s.kept,I64 x.snap ∧ I64 x.no ∧ SmallB x.data
 locks : ∀ x ∈ s.locks,I64 x.block ∧ I64 x.txn ∧ I64 x.age
 preps : ∀ x ∈ s.preps,(I64 x.txn ∧ I64 x.age ∧ I64 x.snap ∧ I64 x.lo ∧ I64 x.hi) ∧ (∀ n ∈ x.parts,I64 n) ∧ x.parts.length ≤ 1000000000 ∧ (∀ w ∈ x.writes,I64 w.block ∧ SmallB w.data) ∧ x.writes.length ≤ 1000000000
 dead : ∀ x ∈ s.dead,I64 x
 outs : ∀ x ∈ s.outs,I64 x.epoch ∧ I64 x.lo ∧ I64 x.hi ∧ SmallB x.data
 sess : ∀ x ∈ s.sess,I64 x.client ∧ I64 x.seq ∧ I64 x.res.code ∧ SmallB x.res.data
 lens : s.blocks.length ≤ 1000000000 ∧ s.kept.length ≤ 1000000000 ∧ s.locks.length ≤ 1000000000 ∧ s.preps.length ≤ 1000000000 ∧ s.dead.length ≤ 1000000000 ∧ s.outs.length ≤ 1000000000 ∧ s.sess.length ≤ 1000000000
theorem small_ok {d : List Bt} (h : SmallB d) : d.length ≤ 9000000000000000000 := Nat.le_trans h (by decide)
theorem getF_enc (s : Shd) (h : ShdIn s) : getF (encShd s) = (s,0) := by
 obtain ⟨⟨n1,n2,n3⟩,hb,hk,hl,hp,hd,ho,hx,⟨m1,m2,m3,m4,m5,m6,m7⟩⟩ := h
 obtain ⟨lo,hi,epoch,blocks,kept,locks,preps,dead,outs,sess⟩ := s
 simp only at *
 have e0 : encShd ⟨lo,hi,epoch,blocks,kept,locks,preps,dead,outs,sess⟩ = be8 lo ++ (be8 hi ++ (be8 epoch ++ (encL' encBlk blocks ++ (encL' encKpt kept ++ (encL' encLk locks ++ (encL' encPrp preps ++ (encInts dead ++ (encL' encOut outs ++ (encL' encSes sess ++ []))))))))) := by
  simp only [encShd,List.append_assoc,List.append_nil]
 generalize encShd ⟨lo,hi,epoch,blocks,kept,locks,preps,dead,outs,sess⟩ = bs at e0
 subst e0
 obtain ⟨a1,a2⟩ := dInt n1 (r := be8 hi ++ (be8 epoch ++ (encL' encBlk blocks ++ (encL' encKpt kept ++ (encL' encLk locks ++ (encL' encPrp preps ++ (encInts dead ++ (encL' encOut outs ++ (encL' encSes sess ++ [])))))))))
 obtain ⟨a3,a4⟩ := dInt n2 (r := be8 epoch ++ (encL' encBlk blocks ++ (encL' encKpt kept ++ (encL' encLk locks ++ (encL' encPrp preps ++ (encInts dead ++ (encL' encOut outs ++ (encL' encSes sess ++ []))))))))
 obtain ⟨a5,a6⟩ := dInt n3 (r := encL' encBlk blocks ++ (encL' encKpt kept ++ (encL' encLk locks ++ (encL' encPrp preps ++ (encInts dead ++ (encL' encOut outs ++ (encL' encSes sess ++ [])))))))
 have b1 := dList (one := oneBlk) (enc := encBlk) (least := 16) (odd := false) (l := blocks) (fun x hx' r => by
   obtain ⟨k1,k2⟩ := hb x hx'
   obtain ⟨q1,q2⟩ := dInt k1 (r := blob x.data ++ r)
   obtain ⟨q3,q4⟩ := dBlob (small_ok k2) (r := r)
   unfold oneBlk encBlk
   simp only [List.append_assoc,q1,q2,q3,q4]) (fun x _ => by unfold encBlk; simp only [List.length_append,be8_length,blob_length]; omega) (by omega) (by omega) (encL' encKpt kept ++ (encL' encLk locks ++ (encL' encPrp preps ++ (encInts dead ++ (encL' encOut outs ++ (encL' encSes sess ++ []))))))
 have b2 := dList (one := oneKpt) (enc := encKpt) (least := 24) (odd := false) (l := kept) (fun x hx' r => by
   obtain ⟨k1,k3,k2⟩ := hk x hx'
   obtain ⟨q1,q2⟩ := dInt k1 (r := be8 x.no ++ (blob x.data ++ r))
   obtain ⟨q5,q6⟩ := dInt k3 (r := blob x.data ++ r)
   obtain ⟨q3,q4⟩ := dBlob (small_ok k2) (r := r)
   unfold oneKpt encKpt
   simp only [List.append_assoc,q1,q2,q3,q4,q5,q6]) (fun x _ => by unfold encKpt; simp only [List.length_append,be8_length,blob_length]; omega) (by omega) (by omega) (encL' encLk locks ++ (encL' encPrp preps ++ (encInts dead ++ (encL' encOut outs ++ (encL' encSes sess ++ [])))))
 have b3 := dList (one := oneLk) (enc := encLk) (least := 32) (odd := false) (l := locks) (fun x hx' r => by
   obtain ⟨k1,k2,k3⟩ := hl x hx'
   obtain ⟨q1,q2⟩ := dInt k1 (r := be8 x.txn ++ (be8 x.age ++ (be8 (bit x.write) ++ r)))
   obtain ⟨q3,q4⟩ := dInt k2 (r := be8 x.age ++ (be8 (bit x.write) ++ r))
   obtain ⟨q5,q6⟩ := dInt k3 (r := be8 (bit x.write) ++ r)
   obtain ⟨q7,q8⟩ := dInt (show I64 (bit x.write) by cases x.write <;> decide) (r := r)
   unfold oneLk encLk
   simp only [List.append_assoc,q1,q2,q3,q4,q5,q6,q7,q8]
   obtain ⟨xb,xt,xa,xw⟩ := x
   cases xw <;> rfl) (fun x _ => by unfold encLk; simp only [List.length_append,be8_length]; omega) (by omega) (by omega) (encL' encPrp preps ++ (encInts dead ++ (encL' encOut outs ++ (encL' encSes sess ++ []))))
 have b4 := dList (one := onePrp) (enc := encPrp) (least := 56) (odd := false) (l := preps) (fun x hx' r => by
   obtain ⟨⟨k1,k2,k3,k4,k5⟩,k6,k7,k8,k9⟩ := hp x hx'
   obtain ⟨q1,q2⟩ := dInt k1 (r := be8 x.age ++ (be8 x.snap ++ (be8 x.lo ++ (be8 x.hi ++ (encInts x.parts ++ (encL' encWr x.writes ++ r))))))
   obtain ⟨q3,q4⟩ := dInt k2 (r := be8 x.snap ++ (be8 x.lo ++ (be8 x.hi ++ (encInts x.parts ++ (encL' encWr x.writes ++ r)))))
   obtain ⟨q5,q6⟩ := dInt k3 (r := be8 x.lo ++ (be8 x.hi ++ (encInts x.parts ++ (encL' encWr x.writes ++ r))))
   obtain ⟨q7,q8⟩ := dInt k4 (r := be8 x.hi ++ (encInts x.parts ++ (encL' encWr x.writes ++ r)))
   obtain ⟨q9,q10⟩ := dInt k5 (r := encInts x.parts ++ (encL' encWr x.writes ++ r))
   obtain ⟨q11,q12⟩ := dInts k6 (by omega) (encL' encWr x.writes ++ r)
   have q13 := dList (one := oneWr) (enc := encWr) (least := 16) (odd := false) (l := x.writes) (fun y hy r => by
    obtain ⟨j1,j2⟩ := k8 y hy
    obtain ⟨p1,p2⟩ := dInt j1 (r := blob y.data ++ r)
    obtain ⟨p3,p4⟩ := dBlob (small_ok j2) (r := r)
    unfold oneWr encWr
    simp only [List.append_assoc,p1,p2,p3,p4]) (fun y _ => by unfold encWr; simp only [List.length_append,be8_length,blob_length]; omega) (by omega) (by omega) r
   unfold onePrp encPrp s5
   simp only [List.append_assoc,q1,q2,q3,q4,q5,q6,q7,q8,q9,q10,q11,q12,q13]) (fun x _ => by unfold encPrp; simp only [List.length_append,be8_length,encInts_length,encL'_length]; omega) (by omega) (by omega) (encInts dead ++ (encL' encOut outs ++ (encL' encSes sess ++ [])))
 obtain ⟨b5,b6⟩ := dInts hd (by omega) (encL' encOut outs ++ (encL' encSes sess ++ []))
 have b7 := dList (one := oneOut) (enc := encOut) (least := 32) (odd := false) (l := outs) (fun x hx' r => by
   obtain ⟨k1,k2,k3,k4⟩ := ho x hx'
   obtain ⟨q1,q2⟩ := dInt k1 (r := be8 x.lo ++ (be8 x.hi ++ (blob x.data ++ r)))
   obtain ⟨q3,q4⟩ := dInt k2 (r := be8 x.hi ++ (blob x.data ++ r))
   obtain ⟨q5,q6⟩ := dInt k3 (r := blob x.data ++ r)
   obtain ⟨q7,q8⟩ := dBlob (small_ok k4) (r := r)
   unfold oneOut encOut
   simp only [List.append_assoc,q1,q2,q3,q4,q5,q6,q7,q8]) (fun x _ => by unfold encOut; simp only [List.length_append,be8_length,blob_length]; omega) (by omega) (by omega) (encL' encSes sess ++ [])
 have b8 := dList (one := oneSes) (enc := encSes) (least := 32) (odd := false) (l := sess) (fun x hx' r => by
   obtain ⟨k1,k2,k3,k4⟩ := hx x hx'
   obtain ⟨q1,q2⟩ := dInt k1 (r := be8 x.seq ++ (be8 x.res.code ++ (blob x.res.data ++ r)))
   obtain ⟨q3,q4⟩ := dInt k2 (r := be8 x.res.code ++ (blob x.res.data ++ r))
   obtain ⟨q5,q6⟩ := dInt k3 (r := blob x.res.data ++ r)
   obtain ⟨q7,q8⟩ := dBlob (small_ok k4) (r := r)
   unfold oneSes encSes
   simp only [List.append_assoc,q1,q2,q3,q4,q5,q6,q7,q8]) (fun x _ => by unfold encSes; simp only [List.length_append,be8_length,blob_length]; omega) (by omega) (by omega) []
 generalize hbs : be8 lo ++ (be8 hi ++ (be8 epoch ++ (encL' encBlk blocks ++ (encL' encKpt kept ++ (encL' encLk locks ++ (encL' encPrp preps ++ (encInts dead ++ (encL' encOut outs ++ (encL' encSes sess ++ []))))))))) = bs at a1 a2
 have c3 : g3 bs = intS (intS (intS ⟨bs,false⟩)) := rfl
 rw [a2,a4,a6] at c3
 have cB : gB bs = listV oneBlk 16 (g3 bs,false) := rfl
 rw [c3,b1] at cB
 have cK : gK bs = listV oneKpt 24 ((gB bs).2.1,false) := rfl
 rw [cB,b2] at cK
 have cL : gL bs = listV oneLk 32 ((gK bs).2.1,false) := rfl
 rw [cK,b3] at cL
 have cP : gP bs = listV onePrp 56 (gL bs).2 := rfl
 rw [cL,b4] at cP
 have cO : gO bs = listV oneOut 32 (intsS (gP bs).2.1,(gP bs).2.2) := rfl
 rw [cP,b6,b7] at cO
 have cX : gX bs = listV oneSes 32 (gO bs).2 := rfl
 rw [cO,b8] at cX
 unfold getF getS
 rw [cX]
 simp only [endV]
 rw [if_neg (by simp),a1,a2,a3,a4,a5,cB,cK,cL,cP,b5,cO]
end Sl
end Go.Proofs.YtpkealohodeifaaGreat
namespace Go.Proofs
open Go.Shelf
def Tryz.lays189_ren : Go.Shelf.Ren := ⟨fun | 189 => 245 | 125 => 272 | 257 => 271 | 128 => 292 | 129 => 293 | 294 => 284 | 295 => 285 | 296 => 286 | 297 => 287 | 298 => 288 | 299 => 289 | 216 => 257 | 300 => 290 | 301 => 291 | 328 => 301 | 329 => 302 | 330 => 303 | 331 => 304 | 332 => 305 | 215 => 237 | 343 => 308 | n => n,fun | 28 => 29 | 3 => 3 | 46 => 184 | 0 => 0 | 51 => 290 | 53 => 188 | 4 => 4 | 183 => 285 | 182 => 284 | 131 => 168 | 5 => 5 | 9 => 9 | 218 => 293 | 222 => 206 | 228 => 298 | 229 => 299 | n => n,fun | n => n⟩
theorem Tryz.lays189 : Go.Proofs.Lays.n189 Tryz.prog Tryz.lays189_ren := {
 mixed := by kernel_rfl
 f125 := Tryz.func272.trans (congrArg some (by kernel_rfl))
 f128 := Tryz.func292.trans (congrArg some (by kernel_rfl))
 f129 := Tryz.func293.trans (congrArg some (by kernel_rfl))
 f189 := Tryz.func245.trans (congrArg some (by kernel_rfl))
 f215 := Tryz.func237.trans (congrArg some (by kernel_rfl))
 f216 := Tryz.func257.trans (congrArg some (by kernel_rfl))
 f257 := Tryz.func271.trans (congrArg some (by kernel_rfl))
 f294 := Tryz.func284.trans (congrArg some (by kernel_rfl))
 f295 := Tryz.func285.trans (congrArg some (by kernel_rfl))
 f296 := Tryz.func286.trans (congrArg some (by kernel_rfl))
 f297 := Tryz.func287.trans (congrArg some (by kernel_rfl))
 f298 := Tryz.func288.trans (congrArg some (by kernel_rfl))
 f299 := Tryz.func289.trans (congrArg some (by kernel_rfl))
 f300 := Tryz.func290.trans (congrArg some (by kernel_rfl))
 f301 := Tryz.func291.trans (congrArg some (by kernel_rfl))
 f328 := Tryz.func301.trans (congrArg some (by kernel_rfl))
 f329 := Tryz.func302.trans (congrArg some (by kernel_rfl))
 f330 := Tryz.func303.trans (congrArg some (by kernel_rfl))
 f331 := Tryz.func304.trans (congrArg some (by kernel_rfl))
 f332 := Tryz.func305.trans (congrArg some (by kernel_rfl))
 f343 := Tryz.func308.trans (congrArg some (by kernel_rfl))
 t0 := Tryz.underlying0
 a0 := Tryz.isAgg0
 z0 := Tryz.sizeOf0
 v0 := Tryz.zeroValue0
 t3 := Tryz.underlying3
 a3 := Tryz.isAgg3
 z3 := Tryz.sizeOf3
 v3 := Tryz.zeroValue3
 t4 := Tryz.underlying4
 a4 := Tryz.isAgg4
 z4 := Tryz.sizeOf4
 v4 := Tryz.zeroValue4
 t5 := Tryz.underlying5
 a5 := Tryz.isAgg5
 z5 := Tryz.sizeOf5
 v5 := Tryz.zeroValue5
 t9 := Tryz.underlying9
 a9 := Tryz.isAgg9
 z9 := Tryz.sizeOf9
 v9 := Tryz.zeroValue9
 t28 := Tryz.underlying29
 a28 := Tryz.isAgg29
 z28 := Tryz.sizeOf29
 v28 := Tryz.zeroValue29
 t46 := Tryz.underlying184
 a46 := Tryz.isAgg184
 z46 := Tryz.sizeOf184
 v46 := Tryz.zeroValue184
 t51 := Tryz.underlying290
 a51 := Tryz.isAgg290
 z51 := Tryz.sizeOf290
 v51 := Tryz.zeroValue290
 t53 := Tryz.underlying188
 a53 := Tryz.isAgg188
 z53 := Tryz.sizeOf188
 v53 := Tryz.zeroValue188
 t131 := Tryz.underlying168
 a131 := Tryz.isAgg168
 z131 := Tryz.sizeOf168
 v131 := Tryz.zeroValue168
 t182 := Tryz.underlying284
 a182 := Tryz.isAgg284
 z182 := Tryz.sizeOf284
 v182 := Tryz.zeroValue284
 t183 := Tryz.underlying285
 a183 := Tryz.isAgg285
 z183 := Tryz.sizeOf285
 v183 := Tryz.zeroValue285
 t218 := Tryz.underlying293
 a218 := Tryz.isAgg293
 z218 := Tryz.sizeOf293
 v218 := Tryz.zeroValue293
 t222 := Tryz.underlying206
 a222 := Tryz.isAgg206
 z222 := Tryz.sizeOf206
 v222 := Tryz.zeroValue206
 t228 := Tryz.underlying298
 a228 := Tryz.isAgg298
 z228 := Tryz.sizeOf298
 v228 := Tryz.zeroValue298
 t229 := Tryz.underlying299
 a229 := Tryz.isAgg299
 z229 := Tryz.sizeOf299
 v229 := Tryz.zeroValue299 }
open Go.Sort Go.RowKit in
theorem Tryz.slices_Sort_int (blk off cap : Nat) (zs : List Int) (w : World) (hH : Holds (Value.int .i64) w blk off zs.toArray) (hblk : blk < w.heap.size) (hsz : zs.length < 4611686018427387904) :
  Calls Tryz.prog 245 #[.slice (some ⟨blk,off,none⟩) zs.length cap] w fun e w' =>
   e = .returned (.tuple #[]) ∧ ∃ n os,w' = grow (putRow (Value.int .i64) (Sort.ahead w n) blk off (zs.mergeSort fun x y => decide (x ≤ y)).toArray) os := Any.slices_Sort_int Tryz.lays189 blk off cap zs w hH hblk hsz
def Tryz.laysNm220_ren : Go.Shelf.Ren := ⟨fun | 20 => 246 | n => n,fun | 22 => 29 | 3 => 3 | 4 => 4 | 0 => 0 | n => n,fun | n => n⟩
theorem Tryz.laysNm220 : Go.Proofs.Lays2.n20 Tryz.prog Tryz.laysNm220_ren := {
 mixed := by kernel_rfl
 f20 := Tryz.func246.trans (congrArg some (by kernel_rfl))
 t0 := Tryz.underlying0
 a0 := Tryz.isAgg0
 z0 := Tryz.sizeOf0
 v0 := Tryz.zeroValue0
 t3 := Tryz.underlying3
 a3 := Tryz.isAgg3
 z3 := Tryz.sizeOf3
 v3 := Tryz.zeroValue3
 t4 := Tryz.underlying4
 a4 := Tryz.isAgg4
 z4 := Tryz.sizeOf4
 v4 := Tryz.zeroValue4
 t22 := Tryz.underlying29
 a22 := Tryz.isAgg29
 z22 := Tryz.sizeOf29
 v22 := Tryz.zeroValue29
 i3 := by kernel_rfl }
open Go.RowKit Go.Lib Go.Sort in
theorem Tryz.slices_Compact_int_arr (blk off cap : Nat) (d : Array Int) (w : World) (hH : Holds encI w blk off d) (hsz : d.size ≤ 9223372036854775807) (hcap : d.size ≤ cap) :
  Calls Tryz.prog 246 #[.slice (some ⟨blk,off,none⟩) d.size cap] w fun e w' => e = .returned (.slice (some ⟨blk,off,none⟩) (compactUpTo d d.size).length cap) ∧ ∃ q,w' = putRow encI (Sort.ahead w q) blk off (compactUpTo d d.size ++ List.replicate (d.size - (compactUpTo d d.size).length) 0).toArray := Any.slices_Compact_int_arr Tryz.laysNm220 blk off cap d w hH hsz hcap
open Go.RowKit Go.Lib Go.Sort in
theorem Tryz.slices_Compact_int (blk off cap : Nat) (zs : List Int) (w : World) (hH : Holds (Value.int .i64) w blk off zs.toArray) (hsz : zs.length ≤ 9223372036854775807) (hcap : zs.length ≤ cap) :
  Calls Tryz.prog 246 #[.slice (some ⟨blk,off,none⟩) zs.length cap] w fun e w' => e = .returned (.slice (some ⟨blk,off,none⟩) (Lib.compact zs).length cap) ∧ ∃ q,w' = putRow (Value.int .i64) (Sort.ahead w q) blk off (Lib.compact zs ++ List.replicate (zs.length - (Lib.compact zs).length) 0).toArray := Any.slices_Compact_int Tryz.laysNm220 blk off cap zs w hH hsz hcap
open Go.RowKit Go.Lib Go.Sort in
theorem Tryz.slices_Compact_int_empty (a : Option Addr) (cap : Nat) (w : World) :
  Calls Tryz.prog 246 #[.slice a 0 cap] w fun e w' => e = .returned (.slice a 0 cap) ∧ w' = w := Any.slices_Compact_int_empty Tryz.laysNm220 a cap w
open Go.RowKit Go.Sort in
theorem Tryz.slices_Sort_int_none (p : Option Addr) (cap : Nat) (w : World) :
  Calls Tryz.prog 245 #[.slice p 0 cap] w fun e w' => e = .returned (.tuple #[]) ∧ w' = w := Any.slices_Sort_int_none Tryz.lays189 p cap w
end Go.Proofs
namespace Go.Proofs.YtpkealohodeifaaGreat
open Go Go.RowKit
namespace Sl
theorem St.grow {w0 w : World} {L : Hp} (h : St w0 w L) (os : Array Obj) : St w0 (Sort.grow w os) L :=
 ⟨h.below.trans ⟨rfl,rfl,rfl,by simp [Sort.grow],fun k hk => by
  have : k < w.heap.size := Nat.lt_of_lt_of_le hk h.below.size
  simp only [Sort.grow]
  rw [Array.getElem?_append_left this]⟩,h.sat.mono fun k _ hk => by simp only [Sort.grow]; rw [Array.getElem?_append_left hk]⟩
theorem flat1 (l : List Int) : (enc1 l).flatten = l.map (Value.int .i64) := by
 induction l with
 | nil => rfl
 | cons x l ih => simp only [enc1,List.map_cons,List.flatten_cons] at ih ⊢; rw [ih]; rfl
theorem putCells_row (d : List Int) (old spare : List Value) (h : old.length = d.length) :
  Sort.putCells (Value.int .i64) 0 d.toArray (old ++ spare).toArray = (d.map (Value.int .i64) ++ spare).toArray := by
 apply Array.ext'
 apply List.ext_getElem?
 intro k
 simp only [Sort.putCells,Array.toList_mapIdx,List.getElem?_mapIdx,List.size_toArray,Nat.zero_le,Nat.zero_add,true_and,Nat.sub_zero]
 by_cases hk : k < d.length
 ·rw [List.getElem?_append_left (by omega),List.getElem?_append_left (by simpa using hk),List.getElem?_eq_getElem (by omega)]
  simp [hk]
 ·rw [List.getElem?_append_right (by omega),List.getElem?_append_right (by simpa using hk),List.length_map,h]
  cases spare[k - d.length]? <;> simp [hk]
theorem St.row {w0 w : World} {b : Nat} {old spare : List Value} {e : TypeId} {R : Hp} (h : St w0 w (pt b (.cells (old ++ spare).toArray e (0,0)) + R)) (n : Nat) (d : List Int) (hd : old.length = d.length) :
  St w0 (Sort.putRow (Value.int .i64) (Sort.ahead w n) b 0 d.toArray) (pt b (.cells (d.map (Value.int .i64) ++ spare).toArray e (0,0)) + R) := by
 have hh := h.sat.left.pt.2
 refine h.set (o' := .cells (d.map (Value.int .i64) ++ spare).toArray e (0,0)) ?_ (fun k hk => ?_) ?_ rfl rfl rfl
 ·show ((Sort.ahead w n).heap.modify b _)[b]? = _
  rw [Array.getElem?_modify,if_pos rfl,show (Sort.ahead w n).heap = w.heap from rfl,hh]
  simp only [Option.map_some,Sort.onCells]
  rw [putCells_row d old spare hd]
 ·show ((Sort.ahead w n).heap.modify b _)[k]? = _
  rw [Array.getElem?_modify,if_neg (Ne.symm hk)]; rfl
 ·show w.heap.size ≤ ((Sort.ahead w n).heap.modify b _).size
  rw [Array.size_modify]; exact Nat.le_refl _
theorem holds_row {w0 w : World} {b : Nat} {zs : List Int} {spare : List Value} {e : TypeId} {R : Hp} (h : St w0 w (pt b (.cells ((enc1 zs).flatten ++ spare).toArray e (0,0)) + R)) : Sort.Holds (Value.int .i64) w b 0 zs.toArray := by
 have hh := h.sat.left.pt.2
 intro j hj
 have hj' : j < zs.length := by simpa using hj
 refine ⟨?_,by simp [World.frozen?,hh]⟩
 rw [flat1] at hh
 simp only [World.cell?,hh,Nat.zero_add]
 rw [List.getElem?_toArray,List.getElem?_append_left (by simpa using hj')]
 simp [hj']
def sortI (zs : List Int) : List Int := zs.mergeSort fun x y => decide (x ≤ y)
theorem sortI_length (zs : List Int) : (sortI zs).length = zs.length := by simp [sortI]
theorem sort_spec (w0 : World) (v : Value) (zs : List Int) (h : Hp) (hr : isRow 3 1 (enc1 zs) v h) (hl : zs.length ≤ 1000000000) :
  Spec Tryz.prog w0 245 [v] h (fun r h' => isRow 3 1 (enc1 (sortI zs)) v h') := by
 intro w fr hst
 by_cases hz : zs = []
 ·subst hz
  obtain ⟨a,c,rfl⟩ := hr.shape
  refine (Tryz.slices_Sort_int_none a c w).mono ?_
  rintro e w' ⟨rfl,rfl⟩
  exact ⟨_,h,rfl,by show isRow _ _ (enc1 (sortI [])) _ _; rw [show sortI [] = [] by simp [sortI]]; exact hr,hst⟩
 ·obtain ⟨b,cap,spare,rfl,rfl,hes,hcap,hmax,hsp⟩ := hr.nonempty (by intro e; rw [← List.length_eq_zero_iff,enc1_length] at e; exact hz (List.eq_nil_of_length_eq_zero e))
  rw [enc1_length] at *
  have hh := hst.sat.left.pt.2
  refine (Tryz.slices_Sort_int b 0 cap zs w (holds_row hst) (Array.getElem?_eq_some_iff.1 hh).1 (by omega)).mono ?_
  rintro e w' ⟨rfl,n,os,rfl⟩
  have hst2 := (hst.row n (sortI zs) (by rw [flat1,List.length_map,sortI_length])).grow os
  rw [← flat1] at hst2
  refine ⟨_,_,rfl,?_,hst2⟩
  have := isRow_block (E := 3) (b := b) (cap := cap) (spare := spare) (enc1_len1 (sortI zs)) (by rw [enc1_length,sortI_length]; exact hcap) hmax (by rw [enc1_length,sortI_length]; exact hsp)
  rwa [enc1_length,sortI_length] at this
def compI (zs : List Int) : List Int := Lib.compact zs
theorem compI_le (zs : List Int) : (compI zs).length ≤ zs.length := by
 unfold compI Lib.compact Lib.compactUpTo
 rw [List.length_map]
 exact Nat.le_trans (List.length_filter_le _ _) (by simp)
theorem compact_spec (w0 : World) (v : Value) (zs : List Int) (h : Hp) (hr : isRow 3 1 (enc1 zs) v h) (hl : zs.length ≤ 1000000000) :
  Spec Tryz.prog w0 246 [v] h (fun r h' => isRow 3 1 (enc1 (compI zs)) r h') := by
 intro w fr hst
 by_cases hz : zs = []
 ·subst hz
  obtain ⟨a,c,rfl⟩ := hr.shape
  refine (Tryz.slices_Compact_int_empty a c w).mono ?_
  rintro e w' ⟨rfl,rfl⟩
  exact ⟨_,h,rfl,hr,hst⟩
 ·obtain ⟨b,cap,spare,rfl,rfl,hes,hcap,hmax,hsp⟩ := hr.nonempty (by intro e; rw [← List.length_eq_zero_iff,enc1_length] at e; exact hz (List.eq_nil_of_length_eq_zero e))
  rw [enc1_length] at *
  refine (Tryz.slices_Compact_int b 0 cap zs w (holds_row hst) (by omega) hcap).mono ?_
  rintro e w' ⟨rfl,q,rfl⟩
  have hle := compI_le zs
  have hst2 := hst.row q (compI zs ++ List.replicate (zs.length - (compI zs).length) 0) (by rw [flat1,List.length_map,List.length_append,List.length_replicate]; omega)
  rw [List.map_append,← flat1,List.append_assoc] at hst2
  refine ⟨_,_,rfl,?_,hst2⟩
  have := isRow_block (E := 3) (b := b) (cap := cap) (spare := (List.replicate (zs.length - (compI zs).length) (0 : Int)).map (Value.int .i64) ++ spare) (enc1_len1 (compI zs)) (by rw [enc1_length]; omega) hmax
   (by rw [enc1_length,List.length_append,List.length_map,List.length_replicate,hsp]; omega)
  rwa [enc1_length] at this
end Sl
end Go.Proofs.YtpkealohodeifaaGreat
namespace Go.Proofs.YtpkealohodeifaaGreat
open Go Go.RowKit
namespace Sl
set_option maxHeartbeats 4000000
set_option maxRecDepth 4000
attribute [local irreducible] Hold HoldL HoldW
def busyL (l : List Lk) (k : Lk) (fixed : List Int) : Bool := l.any fun x => clashL x k && (decide (x.txn ∈ fixed) || elderL x k)
def woundsL (l : List Lk) (k : Lk) : List Int := (l.filter fun x => clashL x k).map Lk.txn
def woundL (l : List Lk) (k : Lk) : List Int := compI (sortI (woundsL l k))
def leftL (l : List Lk) (k : Lk) : List Lk := withoutL l (woundL l k)
def TakeP (l : List Lk) (k : Lk) (fixed : List Int) (a : List Lk) (w : List Int) (e : Int) : Prop :=
 if hasL l k.txn k.block k.write = true then a = l ∧ w = [] ∧ e = 0
 else if busyL l k fixed = true then a = l ∧ w = [] ∧ e = 11
 else if 64 ≤ (leftL l k).length ∧ hasL (leftL l k) k.txn k.block false = false then a = l ∧ w = [] ∧ e = 8
 else Laid (leftL l k) k a ∧ w = woundL l k ∧ e = 0
theorem woundsL_le (l : List Lk) (k : Lk) : (woundsL l k).length ≤ l.length := by unfold woundsL; rw [List.length_map]; exact List.length_filter_le _ _
theorem woundL_le (l : List Lk) (k : Lk) : (woundL l k).length ≤ l.length := Nat.le_trans (compI_le _) (by rw [sortI_length]; exact woundsL_le l k)
theorem leftL_le (l : List Lk) (k : Lk) : (leftL l k).length ≤ l.length := List.length_filter_le _ _
theorem take20_spec (w0 : World) (X : Hp) (v u : Value) (l : List Lk) (k : Lk) (fixed : List Int) (hv : RdRow w0 X 4 v (encL l)) (hu : RdRow w0 X 1 u (enc1 fixed)) (hl : l.length ≤ 1000000) (hf : fixed.length ≤ 1000000) :
  Spec Tryz.prog w0 233 [v,aggL k,u] X (fun r h' => ∃ va vw e a w ha hw,r = .tuple #[va,vw,.int .i64 e] ∧ locksAt a va ha ∧ isRow 3 1 (enc1 w) vw hw ∧ TakeP l k fixed a w e ∧ X + (ha + hw) = h') := by
 have hhas := has20_spec w0 X v l k.txn k.block k.write hv (by omega)
 have hclone := clone20_spec w0 X v l hv (by omega)
 have hcont := containsI_spec w0 X u fixed
 have hclash := fun x => clash_spec w0 x k
 have hrank := fun x => rankOf_spec w0 x
 have hlaid := fun v hp hr hl => laid_spec w0 (leftL l k) k v hp hr hl
 obtain ⟨a,c,rfl,ha⟩ := id hv
 obtain ⟨a2,c2,rfl⟩ := hu.shape
 rw [encL_length] at *
 rw [enc1_length] at *
 unfold aggL at hclash hrank hlaid ⊢
 refine zN Tryz.func233 rfl Tryz.ntmps233 Tryz.results233 rfl fun fr => ?_
 repeat (first | refine zF ?_ | refine zB ?_)
 refine L_box rfl (c := [_,_,_,_]) rfl rfl rfl (fun b4 => ?_)
 repeat (first | refine zF ?_ | refine zB ?_ | refine zE ?_ | refine zK rfl rfl rfl ?_ | refine zZ rfl rfl rfl rfl rfl ?_ | refine L_ld rfl rfl rfl rfl rfl ?_)
 refine zY rfl rfl (zQ rfl rfl rfl) hhas ?_
 rintro _ _ ⟨rfl,rfl⟩
 cases h1 : hasL l k.txn k.block k.write
 ·repeat (first | refine zF ?_ | refine zR ?_ | refine zB ?_ | refine zE ?_ | refine zK rfl rfl rfl ?_ | refine L_len rfl rfl rfl ?_ | refine zP ?_ | refine zI rfl ?_)
  refine hold_loop (fun m g L => ∃ (i : Nat) (vw : Value) (hw R : Hp),i ≤ l.length ∧ m = l.length - i ∧ g = [(0,.slice a l.length c),(2,.slice a2 fixed.length c2),(4,.pointer (some ⟨b4,0,none⟩)),(9,vw),(23,.slice a l.length c),(24,.int .i64 l.length),(25,.int .i64 i)] ∧
    isRow 3 1 (enc1 (woundsL (l.take i) k)) vw hw ∧ busyL (l.take i) k fixed = false ∧
    L = X + pt b4 (.cells [.int .i64 k.block,.int .i64 k.txn,.int .i64 k.age,.bool k.write].toArray 94 (0,0)) + hw + fr + R) _ _
   ⟨0,.slice none 0 0,0,0,by omega,rfl,rfl,isRow_empty _ _ _,rfl,by simp only [yB]; first | rfl | ac_rfl⟩ (by repeat (first | exact zT _ | refine zO rfl ?_)) ?_
  rintro m g L ⟨i,vw,hw,R,hi,rfl,rfl,hrw,hnb,rfl⟩
  repeat (first | refine zF ?_ | refine zB ?_)
  refine yG rfl rfl (pv_lss rfl rfl) (fun h2 => ?_) (fun h2 => ?_)
  ·have hx : i < l.length := by omega
   obtain ⟨b2,o2,rfl,hc2⟩ := ha.2 i _ (encL_at hx)
   have htk : l.take (i + 1) = l.take i ++ [l[i]] := List.take_succ_eq_append_getElem hx
   have hwn : woundsL (l.take (i + 1)) k = woundsL (l.take i) k ++ (if clashL l[i] k = true then [l[i].txn] else []) := by
    unfold woundsL
    rw [htk,List.filter_append,List.map_append]
    congr 1
    by_cases hc : clashL l[i] k = true <;> simp [hc]
   have hbn : busyL (l.take (i + 1)) k fixed = (clashL l[i] k && (decide (l[i].txn ∈ fixed) || elderL l[i] k)) := by
    unfold busyL at hnb ⊢
    rw [htk,List.any_append,hnb]; simp
   repeat (first | refine zF ?_ | refine zR ?_ | refine zB ?_ | refine zE ?_ | refine zP ?_ | refine zJ rfl ?_)
   refine yH rfl rfl (pv_indexAddr rfl rfl hx) ?_
   refine L_load rfl rfl (yF rfl) (loads_aggR rfl [_,_,_,_] rfl (fun j u hj => (hc2 j u hj).frame)) ?_
   refine L_alloc (c := [_,_,_,_]) rfl rfl rfl (fun b11 => ?_)
   repeat (first | refine zF ?_ | refine zB ?_ | refine zE ?_ | refine L_ldA rfl (vs := [_,_,_,_]) rfl rfl rfl rfl rfl ?_ | refine L_stA rfl (vs := [_,_,_,_]) rfl rfl rfl rfl (c' := [_,_,_,_]) rfl rfl ?_)
   refine zY rfl rfl (zQ rfl rfl rfl) (hclash l[i]) ?_
   rintro _ _ ⟨rfl,rfl⟩
   cases hcl : clashL l[i] k
   ·rw [hcl] at hwn hbn
    simp only [Bool.false_eq_true,if_false,List.append_nil,Bool.false_and] at hwn hbn
    repeat (first | refine yD ?_ | refine zB ?_ | refine zE ?_ | refine zK rfl rfl rfl ?_ | refine zJ rfl ?_ | refine L_add rfl rfl (by omega) (by omega) rfl rfl ?_)
    exact ⟨l.length - (i + 1),_,by omega,(by repeat (first | exact zT _ | refine zO rfl ?_)),i + 1,vw,hw,_,by omega,rfl,rfl,by rw [hwn]; exact hrw,hbn,yK.out⟩
   ·rw [hcl] at hwn hbn
    simp only [if_true,Bool.true_and] at hwn hbn
    repeat (first | refine zF ?_ | refine zE ?_ | refine zK rfl rfl rfl ?_ | refine zP ?_ | refine zI rfl ?_)
    refine yC [3,6,8,9] [0,1,2,3,4,5,7,6,8,9,10] (by kernel_rfl) rfl (by kernel_rfl) (by kernel_rfl) ?_
    repeat (first | refine yI rfl rfl rfl rfl rfl ?_ | refine yE rfl rfl rfl rfl (yA rfl rfl rfl) ?_ | refine W_load rfl rfl rfl rfl (yF rfl) (zG rfl (zS rfl)) ?_)
    refine W_call rfl rfl rfl rfl (zQ rfl rfl rfl) (hcont l[i].txn hu (by omega)) (Kept.all _) ?_
    rintro _ _ ⟨rfl,rfl⟩
    refine ⟨(by repeat (first | exact trivial | exact zG rfl (zS rfl) | exact zL rfl rfl rfl | refine ⟨?_,?_⟩)),?_⟩
    have hbusy : busyL (l.take (i + 1)) k fixed = true → TakeP l k fixed l [] 11 := by
     intro hb
     have : busyL l k fixed = true := by
      unfold busyL at hb ⊢
      obtain ⟨x,hx1,hx2⟩ := List.any_eq_true.1 hb
      exact List.any_eq_true.2 ⟨x,List.mem_of_mem_take hx1,hx2⟩
     unfold TakeP
     rw [if_neg (by rw [h1]; simp),if_pos this]
     exact ⟨rfl,rfl,rfl⟩
    by_cases hm : l[i].txn ∈ fixed
    ·rw [decide_eq_true hm]
     repeat (first | refine yJ ?_ | refine yI rfl rfl rfl rfl rfl ?_ | refine W_skip rfl rfl rfl rfl ?_ | refine W_not rfl rfl rfl rfl ?_)
     repeat (first | refine zF ?_ | refine zB ?_ | refine zK rfl rfl rfl ?_ | refine zJ rfl ?_)
     refine zY rfl rfl (zQ rfl rfl rfl) hclone ?_
     rintro va _ ⟨hh,hla,rfl⟩
     repeat (first | refine zE ?_ | refine zK rfl rfl rfl ?_ | refine zM ?_)
     exact ⟨[_,_,_],X + hh,_,⟨rfl,rfl,rfl,trivial⟩,⟨va,_,11,l,[],hh,0,rfl,hla,isRow_empty _ _ _,hbusy (by rw [hbn]; simp [hm]),by rw [yB]⟩,yK.out⟩
    ·rw [decide_eq_false hm]
     repeat (first | refine yI rfl rfl rfl rfl rfl ?_ | refine W_load rfl rfl rfl rfl (yF rfl) (zL (vs := [_,_,_,_]) rfl rfl rfl) ?_)
     refine W_call rfl rfl rfl rfl (zQ rfl rfl rfl) (hrank l[i]) (Kept.all _) ?_
     rintro _ _ ⟨rfl,rfl⟩
     refine ⟨(by repeat (first | exact trivial | exact zG rfl (zS rfl) | exact zL rfl rfl rfl | refine ⟨?_,?_⟩)),?_⟩
     refine W_call rfl rfl rfl rfl (zQ rfl rfl rfl) (hrank k) (Kept.all _) ?_
     rintro _ _ ⟨rfl,rfl⟩
     refine ⟨(by repeat (first | exact trivial | exact zG rfl (zS rfl) | exact zL rfl rfl rfl | refine ⟨?_,?_⟩)),?_⟩
     refine W_call rfl rfl rfl rfl (zQ rfl rfl rfl) (elder_spec w0 l[i].age l[i].txn k.age k.txn) (Kept.all _) ?_
     rintro _ _ ⟨rfl,rfl⟩
     refine ⟨(by repeat (first | exact trivial | exact zG rfl (zS rfl) | exact zL rfl rfl rfl | refine ⟨?_,?_⟩)),?_⟩
     cases hel : elderV l[i].age l[i].txn k.age k.txn
     ·repeat (first | refine yJ ?_ | refine yI rfl rfl rfl rfl rfl ?_)
      repeat (first | refine zB ?_ | refine zK rfl rfl rfl ?_ | refine zZ rfl rfl rfl rfl rfl ?_ | refine L_ld rfl rfl rfl rfl rfl ?_ | refine zP ?_ | refine zI rfl ?_)
      refine L_eff rfl rfl (ev_buildSlice (vs := [_]) (cells := [_]) rfl rfl rfl rfl) ?_
      rintro _ _ ⟨b5,rfl,rfl⟩
      refine L_eff rfl rfl (ev_append (xs := enc1 (woundsL (l.take i) k)) (h := hw) (ns := enc1 [l[i].txn]) rfl rfl hrw (rd_one rfl) (enc1_one _) rfl rfl rfl (by have := woundsL_le (l.take i) k; rw [List.length_take] at this; simp only [enc1_length]; simp; omega)) ?_
      rintro vw' _ ⟨hw',hrw',rfl⟩
      repeat (first | refine zB ?_ | refine zE ?_ | refine zK rfl rfl rfl ?_ | refine L_add rfl rfl (by omega) (by omega) rfl rfl ?_)
      rw [show enc1 (woundsL (l.take i) k) ++ enc1 [l[i].txn] = enc1 (woundsL (l.take (i + 1)) k) by rw [hwn]; simp only [enc1,List.map_append]] at hrw'
      exact ⟨l.length - (i + 1),_,by omega,(by repeat (first | exact zT _ | refine zO rfl ?_)),i + 1,vw',hw',_,by omega,rfl,rfl,hrw',by rw [hbn]; simp [hm,elderL,hel],yK.out⟩
     ·repeat (first | refine yJ ?_ | refine yI rfl rfl rfl rfl rfl ?_)
      repeat (first | refine zF ?_ | refine zB ?_ | refine zK rfl rfl rfl ?_ | refine zJ rfl ?_)
      refine zY rfl rfl (zQ rfl rfl rfl) hclone ?_
      rintro va _ ⟨hh,hla,rfl⟩
      repeat (first | refine zE ?_ | refine zK rfl rfl rfl ?_ | refine zM ?_)
      exact ⟨[_,_,_],X + hh,_,⟨rfl,rfl,rfl,trivial⟩,⟨va,_,11,l,[],hh,0,rfl,hla,isRow_empty _ _ _,hbusy (by rw [hbn]; simp [elderL,hel]),by rw [yB]⟩,yK.out⟩
  ·rw [List.take_of_length_le (by omega)] at hrw hnb
   have hwl := woundsL_le l k
   have hwl2 := woundL_le l k
   have hll := leftL_le l k
   repeat (first | refine zF ?_ | refine yD ?_ | refine zB ?_ | refine zE ?_ | refine zK rfl rfl rfl ?_ | refine zI rfl ?_)
   refine zY rfl rfl (zQ rfl rfl rfl) (sort_spec w0 vw (woundsL l k) hw hrw (by omega)) ?_
   rintro _ hw2 hrw2
   repeat (first | refine zF ?_ | refine zB ?_ | refine zE ?_ | refine zK rfl rfl rfl ?_)
   refine zY rfl rfl (zQ rfl rfl rfl) (compact_spec w0 vw (sortI (woundsL l k)) hw2 hrw2 (by rw [sortI_length]; omega)) ?_
   rintro vw3 hw3 hrw3
   change isRow 3 1 (enc1 (woundL l k)) vw3 hw3 at hrw3
   repeat (first | refine zF ?_ | refine zB ?_ | refine zE ?_ | refine zK rfl rfl rfl ?_)
   have hwo := without_spec w0 (X + hw3) _ vw3 l (woundL l k) (hv.frame (R := hw3)) (hrw3.rd (hf := by infer_instance)) (by omega) (by omega)
   refine zY rfl rfl (zQ rfl rfl rfl) hwo ?_
   rintro vl _ ⟨hl4,hla,rfl⟩
   change locksAt (leftL l k) vl hl4 at hla
   obtain ⟨a6,c6,rfl⟩ := hla.shape
   rw [encL_length] at *
   repeat (first | refine zF ?_ | refine zB ?_ | refine zE ?_ | refine zK rfl rfl rfl ?_ | refine L_len rfl rfl rfl ?_)
   have hok : ¬ (64 ≤ (leftL l k).length ∧ hasL (leftL l k) k.txn k.block false = false) → ∀ {r'},Laid (leftL l k) k r' → TakeP l k fixed r' (woundL l k) 0 := by
    intro hn r' hld
    unfold TakeP
    rw [if_neg (by rw [h1]; simp),if_neg (by rw [hnb]; simp),if_neg hn]
    exact ⟨hld,rfl,rfl⟩
   refine yG rfl rfl (pv_geq rfl rfl) (fun h5 => ?_) (fun h5 => ?_)
   ·repeat (first | refine zK rfl rfl rfl ?_ | refine zZ rfl rfl rfl rfl rfl ?_ | refine L_ld rfl rfl rfl rfl rfl ?_)
    refine zY rfl rfl (zQ rfl rfl rfl) (has20_spec w0 hl4 _ (leftL l k) k.txn k.block false (hla.rd (R := 0)) (by omega)) ?_
    rintro _ _ ⟨rfl,rfl⟩
    cases h6 : hasL (leftL l k) k.txn k.block false
    ·repeat (first | refine zF ?_ | refine zB ?_ | refine zE ?_ | refine zK rfl rfl rfl ?_ | refine zJ rfl ?_)
     refine zY rfl rfl (zQ rfl rfl rfl) hclone ?_
     rintro va _ ⟨hh,hlb,rfl⟩
     repeat (first | refine zE ?_ | refine zK rfl rfl rfl ?_ | refine zM ?_)
     exact ⟨[_,_,_],X + hh,_,⟨rfl,rfl,rfl,trivial⟩,⟨va,_,8,l,[],hh,0,rfl,hlb,isRow_empty _ _ _,by unfold TakeP; rw [if_neg (by rw [h1]; simp),if_neg (by rw [hnb]; simp),if_pos ⟨by omega,h6⟩]; exact ⟨rfl,rfl,rfl⟩,by rw [yB]⟩,yK.out⟩
    ·repeat (first | refine zF ?_ | refine zB ?_ | refine zE ?_ | refine zK rfl rfl rfl ?_ | refine zP ?_ | refine zI rfl ?_ | refine L_ldA rfl (vs := [_,_,_,_]) rfl rfl rfl rfl rfl ?_)
     refine zY rfl rfl (zQ rfl rfl rfl) (hlaid _ hl4 hla (by omega)) ?_
     rintro vr hr5 ⟨r',hlr,hld⟩
     repeat (first | refine zE ?_ | refine zK rfl rfl rfl ?_ | refine zM ?_)
     exact ⟨[_,_,_],X + (hr5 + hw3),_,⟨rfl,rfl,rfl,trivial⟩,⟨_,_,0,r',woundL l k,hr5,hw3,rfl,hlr,hrw3,hok (fun h => by rw [h6] at h; exact absurd h.2 (by simp)) hld,rfl⟩,yK.out⟩
   ·repeat (first | refine zF ?_ | refine zB ?_ | refine zE ?_ | refine zK rfl rfl rfl ?_ | refine L_skip rfl rfl ?_ | refine zP ?_ | refine zI rfl ?_ | refine L_ldA rfl (vs := [_,_,_,_]) rfl rfl rfl rfl rfl ?_)
    refine zY rfl rfl (zQ rfl rfl rfl) (hlaid _ hl4 hla (by omega)) ?_
    rintro vr hr5 ⟨r',hlr,hld⟩
    repeat (first | refine zE ?_ | refine zK rfl rfl rfl ?_ | refine zM ?_)
    exact ⟨[_,_,_],X + (hr5 + hw3),_,⟨rfl,rfl,rfl,trivial⟩,⟨_,_,0,r',woundL l k,hr5,hw3,rfl,hlr,hrw3,hok (fun h => by omega) hld,rfl⟩,yK.out⟩
 ·repeat (first | refine zF ?_ | refine zB ?_ | refine zE ?_ | refine zK rfl rfl rfl ?_ | refine zJ rfl ?_)
  refine zY rfl rfl (zQ rfl rfl rfl) hclone ?_
  rintro va _ ⟨hh,hla,rfl⟩
  repeat (first | refine zE ?_ | refine zK rfl rfl rfl ?_ | refine zM ?_)
  exact ⟨[_,_,_],X + hh,_,⟨rfl,rfl,rfl,trivial⟩,⟨va,_,0,l,[],hh,0,rfl,hla,isRow_empty _ _ _,by unfold TakeP; rw [if_pos h1]; exact ⟨rfl,rfl,rfl⟩,by rw [yB]⟩,yK.out⟩
end Sl
end Go.Proofs.YtpkealohodeifaaGreat
namespace Go.Proofs.YtpkealohodeifaaGreat
open Go Go.RowKit
namespace Sl
theorem mem_sortI (zs : List Int) (x : Int) : x ∈ sortI zs ↔ x ∈ zs := by unfold sortI; exact List.mem_mergeSort
theorem sorted_sortI (zs : List Int) : (sortI zs).Pairwise (· ≤ ·) := by
 have h := List.pairwise_mergeSort (le := fun x y : Int => decide (x ≤ y)) (fun a b c h1 h2 => by simp at *; omega) (fun a b => by simp; omega) zs
 unfold sortI
 exact h.imp (fun h => by simpa using h)
theorem mem_upTo (d : Array Int) : ∀ (m : Nat) (x : Int),x ∈ Lib.compactUpTo d m ↔ ∃ j,j < m ∧ d[j]! = x
 | 0,x => by simp [Lib.compactUpTo]
 | m + 1,x => by
  rw [Lib.compactUpTo_succ,List.mem_append,mem_upTo d m x]
  constructor
  ·rintro (⟨j,hj,e⟩ | h)
   ·exact ⟨j,by omega,e⟩
   ·split at h
    ·simp only [List.mem_singleton] at h; exact ⟨m,by omega,h.symm⟩
    ·cases h
  ·rintro ⟨j,hj,e⟩
   by_cases hjm : j < m
   ·exact .inl ⟨j,hjm,e⟩
   ·obtain rfl : j = m := by omega
    cases hk : Lib.keeps d j with
    | true => right; simp [e]
    | false =>
     left
     simp only [Lib.keeps,decide_eq_false_iff_not,not_or,Decidable.not_not] at hk
     exact ⟨j - 1,by omega,by rw [← hk.2]; exact e⟩
theorem sorted_at {zs : List Int} (h : zs.Pairwise (· ≤ ·)) {i j : Nat} (hij : i ≤ j) (hj : j < zs.length) : zs.toArray[i]! ≤ zs.toArray[j]! := by
 have e : ∀ k,k < zs.length → zs.toArray[k]! = zs.getD k 0 := fun k hk => by simp [List.getD,hk]
 rw [e i (by omega),e j hj,List.getD_eq_getElem?_getD,List.getD_eq_getElem?_getD,List.getElem?_eq_getElem hj,List.getElem?_eq_getElem (by omega : i < zs.length)]
 simp only [Option.getD_some]
 rcases Nat.lt_or_ge i j with h1 | h1
 ·exact List.pairwise_iff_getElem.1 h i j (by omega) hj h1
 ·obtain rfl : i = j := by omega
  exact Int.le_refl _
theorem upTo_lt {zs : List Int} (h : zs.Pairwise (· ≤ ·)) : ∀ m,m ≤ zs.length → (Lib.compactUpTo zs.toArray m).Pairwise (· < ·)
 | 0,_ => by simp [Lib.compactUpTo]
 | m + 1,hm => by
  rw [Lib.compactUpTo_succ]
  refine List.pairwise_append.2 ⟨upTo_lt h m (by omega),by split <;> simp,fun x hx y hy => ?_⟩
  split at hy
  ·rename_i hk
   simp only [List.mem_singleton] at hy
   subst hy
   obtain ⟨j,hj,rfl⟩ := (mem_upTo _ _ _).1 hx
   simp only [Lib.keeps,decide_eq_true_eq] at hk
   rcases hk with hk | hk
   ·omega
   ·have h1 := sorted_at h (i := j) (j := m - 1) (by omega) (by omega)
    have h2 := sorted_at h (i := m - 1) (j := m) (by omega) (by omega)
    omega
  ·cases hy
theorem mem_compI (zs : List Int) (x : Int) : x ∈ compI zs ↔ x ∈ zs := by
 unfold compI Lib.compact
 rw [mem_upTo]
 constructor
 ·rintro ⟨j,hj,rfl⟩
  rw [show zs.toArray[j]! = zs[j] by simp [hj]]
  exact List.getElem_mem hj
 ·intro h
  obtain ⟨j,hj,rfl⟩ := List.getElem_of_mem h
  exact ⟨j,hj,by simp [hj]⟩
theorem lt_compI {zs : List Int} (h : zs.Pairwise (· ≤ ·)) : (compI zs).Pairwise (· < ·) := upTo_lt h _ (Nat.le_refl _)
theorem mem_woundL {l : List Lk} {k : Lk} {x : Int} : x ∈ woundL l k ↔ ∃ y ∈ l,clashL y k = true ∧ y.txn = x := by
 unfold woundL
 rw [mem_compI,mem_sortI]
 unfold woundsL
 simp only [List.mem_map,List.mem_filter,and_assoc]
theorem not_busy {l : List Lk} {k : Lk} {fixed : List Int} (h : ¬ busyL l k fixed = true) {y : Lk} (hy : y ∈ l) (hc : clashL y k = true) : y.txn ∉ fixed ∧ elderL y k = false := by
 have : (clashL y k && (decide (y.txn ∈ fixed) || elderL y k)) = false := by
  have h' : busyL l k fixed = false := by simpa using h
  unfold busyL at h'
  have := List.any_eq_false.1 h' y hy
  simpa only [Bool.not_eq_true] using this
 rw [hc] at this
 simpa using this
theorem clash_txn {y k : Lk} (hc : clashL y k = true) : y.txn ≠ k.txn := by
 simp only [clashL,Bool.and_eq_true,decide_eq_true_eq] at hc
 exact hc.1.2
theorem hasP_self (x : Lk) : hasP x.txn x.block x.write x = true := by simp [hasP]
theorem hasL_of_mem {l : List Lk} {x : Lk} (h : x ∈ l) : hasL l x.txn x.block x.write = true := List.any_eq_true.2 ⟨x,h,hasP_self x⟩
theorem Laid.mem {l r : List Lk} {k : Lk} (h : Laid l k r) {x : Lk} (hx : x ∈ r) : x.txn = k.txn ∨ ∃ y ∈ l,y.txn = x.txn := by
 rcases h with ⟨n,hn,h1,h2,rfl⟩ | ⟨_,⟨n,hn,h1,h2,rfl⟩ | ⟨_,rfl⟩⟩
 ·rcases List.mem_or_eq_of_mem_set hx with hx | rfl
  ·exact .inr ⟨x,hx,rfl⟩
  ·exact .inr ⟨l[n],List.getElem_mem hn,rfl⟩
 ·rcases List.mem_append.1 hx with hx | hx
  ·exact .inr ⟨x,List.mem_of_mem_take hx,rfl⟩
  ·rcases List.mem_cons.1 hx with rfl | hx
   ·exact .inl rfl
   ·exact .inr ⟨x,List.mem_of_mem_drop hx,rfl⟩
 ·rcases List.mem_append.1 hx with hx | hx
  ·exact .inr ⟨x,hx,rfl⟩
  ·rw [List.mem_singleton] at hx; subst hx; exact .inl rfl
theorem Laid.has {l r : List Lk} {k : Lk} (h : Laid l k r) {x : Lk} (hx : x ∈ l) : hasL r x.txn x.block x.write = true := by
 rcases h with ⟨n,hn,h1,h2,rfl⟩ | ⟨_,⟨n,hn,h1,h2,rfl⟩ | ⟨_,rfl⟩⟩
 ·obtain ⟨m,hm,rfl⟩ := List.getElem_of_mem hx
  by_cases e : m = n
  ·subst e
   refine List.any_eq_true.2 ⟨{ l[m] with write := true },List.mem_iff_getElem.2 ⟨m,by simpa using hm,by simp⟩,by simp [hasP]⟩
  ·refine hasL_of_mem (List.mem_iff_getElem.2 ⟨m,by simpa using hm,by rw [List.getElem_set_ne (Ne.symm e)]⟩)
 ·refine hasL_of_mem ?_
  rw [← List.take_append_drop n l] at hx
  rcases List.mem_append.1 hx with hx | hx
  ·exact List.mem_append_left _ hx
  ·exact List.mem_append_right _ (List.mem_cons_of_mem _ hx)
 ·exact hasL_of_mem (List.mem_append_left _ hx)
theorem Laid.length {l r : List Lk} {k : Lk} (h : Laid l k r) : l.length ≤ r.length ∧ r.length ≤ l.length + 1 := by
 rcases h with ⟨n,hn,h1,h2,rfl⟩ | ⟨_,⟨n,hn,h1,h2,rfl⟩ | ⟨_,rfl⟩⟩
 ·simp
 ·simp; omega
 ·simp
theorem withoutL_nil (l : List Lk) : withoutL l [] = l := by simp [withoutL]
theorem mem_withoutL {l : List Lk} {ts : List Int} {x : Lk} : x ∈ withoutL l ts ↔ x ∈ l ∧ x.txn ∉ ts := by simp [withoutL]
theorem take_ok {l a : List Lk} {k : Lk} {fixed w : List Int} {e : Int} (h : TakeP l k fixed a w e) (he : e = 0) :
  (∀ x ∈ w,x ∉ fixed ∧ x ≠ k.txn) ∧ w.Pairwise (· < ·) ∧ (∀ x ∈ l,x.txn ∉ w → hasL a x.txn x.block x.write = true) ∧ (∀ x ∈ a,x.txn ∉ w) ∧ (withoutL l w).length ≤ a.length ∧ a.length ≤ (withoutL l w).length + 1 := by
 unfold TakeP at h
 by_cases h1 : hasL l k.txn k.block k.write = true
 ·rw [if_pos h1] at h
  obtain ⟨rfl,rfl,_⟩ := h
  exact ⟨by simp,by simp,fun x hx _ => hasL_of_mem hx,by simp,by rw [withoutL_nil]; exact Nat.le_refl _,by rw [withoutL_nil]; omega⟩
 ·rw [if_neg h1] at h
  by_cases h2 : busyL l k fixed = true
  ·rw [if_pos h2] at h; exact absurd (h.2.2.symm.trans he) (by decide)
  ·rw [if_neg h2] at h
   by_cases h3 : 64 ≤ (leftL l k).length ∧ hasL (leftL l k) k.txn k.block false = false
   ·rw [if_pos h3] at h; exact absurd (h.2.2.symm.trans he) (by decide)
   ·rw [if_neg h3] at h
    obtain ⟨hl,rfl,_⟩ := h
    have hk : k.txn ∉ woundL l k := fun hm => by
     obtain ⟨y,hy,hc,e⟩ := mem_woundL.1 hm
     exact clash_txn hc e
    refine ⟨fun x hx => ?_,lt_compI (sorted_sortI _),fun x hx hn => hl.has (mem_withoutL.2 ⟨hx,hn⟩),fun x hx => ?_,hl.length.1,hl.length.2⟩
    ·obtain ⟨y,hy,hc,rfl⟩ := mem_woundL.1 hx
     exact ⟨(not_busy h2 hy hc).1,clash_txn hc⟩
    ·rcases hl.mem hx with e | ⟨y,hy,e⟩
     ·rw [e]; exact hk
     ·rw [← e]; exact (mem_withoutL.1 hy).2
theorem take_no {l a : List Lk} {k : Lk} {fixed w : List Int} {e : Int} (h : TakeP l k fixed a w e) (he : e ≠ 0) : a = l ∧ w = [] := by
 unfold TakeP at h
 split at h
 ·exact ⟨h.1,h.2.1⟩
 ·split at h
  ·exact ⟨h.1,h.2.1⟩
  ·split at h
   ·exact ⟨h.1,h.2.1⟩
   ·exact absurd h.2.2 he
end Sl
end Go.Proofs.YtpkealohodeifaaGreat
namespace Go.Proofs.YtpkealohodeifaaGreat
open Go Go.RowKit
namespace Sl
def ltL (x y : Lk) : Prop := x.block < y.block ∨ (x.block = y.block ∧ x.txn < y.txn)
structure Safe (l : List Lk) : Prop where
 sorted : l.Pairwise ltL
 calm : ∀ x ∈ l,∀ y ∈ l,clashL x y = false
 few : l.length ≤ 64
theorem safe_nil : Safe [] := ⟨by simp,by simp,by simp⟩
theorem Safe.without {l : List Lk} (h : Safe l) (ts : List Int) : Safe (withoutL l ts) :=
 ⟨h.sorted.sublist (List.filter_sublist),fun x hx y hy => h.calm x (List.mem_filter.1 hx).1 y (List.mem_filter.1 hy).1,Nat.le_trans (List.length_filter_le _ _) h.few⟩
theorem ltL_trans {x y z : Lk} (h1 : ltL x y) (h2 : ltL y z) : ltL x z := by unfold ltL at *; omega
theorem ltL_of_not {k x : Lk} (h1 : behindL k x = false) (h2 : sameSpot k x = false) : ltL x k := by
 simp only [behindL,sameSpot,decide_eq_false_iff_not] at h1 h2
 unfold ltL; omega
theorem ltL_of {k x : Lk} (h1 : behindL k x = true) : ltL k x := by
 simp only [behindL,decide_eq_true_eq] at h1
 unfold ltL; omega
theorem Laid.sorted {l r : List Lk} {k : Lk} (h : Laid l k r) (hs : l.Pairwise ltL) : r.Pairwise ltL := by
 rcases h with ⟨n,hn,h1,h2,rfl⟩ | ⟨h0,⟨n,hn,h1,h2,rfl⟩ | ⟨h1,rfl⟩⟩
 ·rw [List.pairwise_iff_getElem] at hs ⊢
  have key : ∀ (i : Nat) (hi : i < (l.set n { l[n] with write := true }).length),(l.set n { l[n] with write := true })[i].block = (l[i]'(by simpa using hi)).block ∧ (l.set n { l[n] with write := true })[i].txn = (l[i]'(by simpa using hi)).txn := by
   intro i hi
   by_cases e : n = i
   ·subst e; simp
   ·rw [List.getElem_set_ne e]; exact ⟨rfl,rfl⟩
  intro i j hi hj hij
  have := hs i j (by simpa using hi) (by simpa using hj) hij
  unfold ltL at this ⊢
  rw [(key i hi).1,(key i hi).2,(key j hj).1,(key j hj).2]
  exact this
 ·have hd : l = l.take n ++ l.drop n := (List.take_append_drop n l).symm
  have hs' := hs
  rw [hd,List.pairwise_append] at hs'
  obtain ⟨s1,s2,s3⟩ := hs'
  refine List.pairwise_append.2 ⟨s1,List.pairwise_cons.2 ⟨fun y hy => ?_,s2⟩,fun x hx y hy => ?_⟩
  ·rw [List.drop_eq_getElem_cons hn] at hy s2
   rcases List.mem_cons.1 hy with rfl | hy
   ·exact ltL_of h1
   ·exact ltL_trans (ltL_of h1) ((List.pairwise_cons.1 s2).1 y hy)
  ·rcases List.mem_cons.1 hy with rfl | hy
   ·exact ltL_of_not (h2 x hx) (h0 x (List.mem_of_mem_take hx))
   ·exact s3 x hx y hy
 ·refine List.pairwise_append.2 ⟨hs,by simp,fun x hx y hy => ?_⟩
  rw [List.mem_singleton] at hy; subst hy
  exact ltL_of_not (h1 x hx) (h0 x hx)
theorem clash_comm (x y : Lk) : clashL x y = clashL y x := by
 unfold clashL
 rw [show decide (x.block = y.block) = decide (y.block = x.block) from decide_eq_decide.2 eq_comm,show decide (x.txn ≠ y.txn) = decide (y.txn ≠ x.txn) from decide_eq_decide.2 ne_comm,Bool.or_comm]
theorem clash_self (x : Lk) : clashL x x = false := by simp [clashL]
theorem Laid.calm {l r : List Lk} {k : Lk} (h : Laid l k r) (hc : ∀ x ∈ l,∀ y ∈ l,clashL x y = false) (hk : ∀ x ∈ l,clashL x k = false) (hw : ∀ x ∈ l,sameSpot k x = true → k.write = true) : ∀ x ∈ r,∀ y ∈ r,clashL x y = false := by
 have add : ∀ z : Lk,(∀ x ∈ l,clashL x z = false) → ∀ r' : List Lk,(∀ x ∈ r',x ∈ l ∨ x = z) → ∀ x ∈ r',∀ y ∈ r',clashL x y = false := by
  intro z hz r' hr x hx y hy
  rcases hr x hx with hx | rfl <;> rcases hr y hy with hy | rfl
  ·exact hc x hx y hy
  ·exact hz x hx
  ·rw [clash_comm]; exact hz y hy
  ·exact clash_self _
 rcases h with ⟨n,hn,h1,h2,rfl⟩ | ⟨h0,⟨n,hn,h1,h2,rfl⟩ | ⟨h1,rfl⟩⟩
 ·refine add { l[n] with write := true } (fun x hx => ?_) _ (fun x hx => List.mem_or_eq_of_mem_set hx)
  have hkw := hw _ (List.getElem_mem hn) h1
  have := hk x hx
  simp only [sameSpot,decide_eq_true_eq] at h1
  simp only [clashL,h1.1,h1.2,hkw] at this ⊢
  exact this
 ·refine add k hk _ (fun x hx => ?_)
  rcases List.mem_append.1 hx with hx | hx
  ·exact .inl (List.mem_of_mem_take hx)
  ·rcases List.mem_cons.1 hx with rfl | hx
   ·exact .inr rfl
   ·exact .inl (List.mem_of_mem_drop hx)
 ·refine add k hk _ (fun x hx => ?_)
  rcases List.mem_append.1 hx with hx | hx
  ·exact .inl hx
  ·exact .inr (List.mem_singleton.1 hx)
theorem hasP_spot {k x : Lk} : hasP k.txn k.block k.write x = (sameSpot k x && (x.write || !k.write)) := rfl
theorem take_safe {l a : List Lk} {k : Lk} {fixed w : List Int} {e : Int} (h : TakeP l k fixed a w e) (hs : Safe l) : Safe a := by
 by_cases he : e = 0
 ·unfold TakeP at h
  by_cases h1 : hasL l k.txn k.block k.write = true
  ·rw [if_pos h1] at h; rw [h.1]; exact hs
  ·rw [if_neg h1] at h
   by_cases h2 : busyL l k fixed = true
   ·rw [if_pos h2] at h; rw [h.1]; exact hs
   ·rw [if_neg h2] at h
    by_cases h3 : 64 ≤ (leftL l k).length ∧ hasL (leftL l k) k.txn k.block false = false
    ·rw [if_pos h3] at h; rw [h.1]; exact hs
    ·rw [if_neg h3] at h
     obtain ⟨hl,_,_⟩ := h
     have hsl : Safe (leftL l k) := hs.without _
     refine ⟨hl.sorted hsl.sorted,hl.calm hsl.calm (fun x hx => ?_) (fun x hx hsp => ?_),?_⟩
     ·obtain ⟨hx1,hx2⟩ := mem_withoutL.1 hx
      cases hc : clashL x k with
      | false => rfl
      | true => exact absurd (mem_woundL.2 ⟨x,hx1,hc,rfl⟩) hx2
     ·obtain ⟨hx1,_⟩ := mem_withoutL.1 hx
      have h1' : hasL l k.txn k.block k.write = false := by simpa using h1
      have := List.any_eq_false.1 h1' x hx1
      rw [hasP_spot,hsp] at this
      cases hk : k.write with
      | true => rfl
      | false => rw [hk] at this; simp at this
     ·have hf := hsl.few
      have hln := hl.length
      by_cases h5 : (leftL l k).length < 64
      ·omega
      ·have h6 : hasL (leftL l k) k.txn k.block false = true := by
        cases hh : hasL (leftL l k) k.txn k.block false with
        | true => rfl
        | false => exact absurd ⟨by omega,hh⟩ h3
       obtain ⟨x,hx,hxp⟩ := List.any_eq_true.1 h6
       have hxs : sameSpot k x = true := by simp only [hasP,Bool.not_false,Bool.or_true,Bool.and_true] at hxp; exact hxp
       rcases hl with ⟨n,hn,g1,g2,rfl⟩ | ⟨g0,_⟩
       ·simpa using hf
       ·rw [g0 x hx] at hxs; cases hxs
 ·rw [(take_no h he).1]; exact hs
theorem take_has {l a : List Lk} {k : Lk} {fixed w : List Int} {e : Int} (h : TakeP l k fixed a w e) : hasL a k.txn k.block k.write = decide (e = 0) := by
 unfold TakeP at h
 by_cases h1 : hasL l k.txn k.block k.write = true
 ·rw [if_pos h1] at h; obtain ⟨rfl,_,rfl⟩ := h; rw [h1]; rfl
 ·have h1' : hasL l k.txn k.block k.write = false := by simpa using h1
  rw [if_neg h1] at h
  by_cases h2 : busyL l k fixed = true
  ·rw [if_pos h2] at h; obtain ⟨rfl,_,rfl⟩ := h; rw [h1']; rfl
  ·rw [if_neg h2] at h
   by_cases h3 : 64 ≤ (leftL l k).length ∧ hasL (leftL l k) k.txn k.block false = false
   ·rw [if_pos h3] at h; obtain ⟨rfl,_,rfl⟩ := h; rw [h1']; rfl
   ·rw [if_neg h3] at h
    obtain ⟨hl,_,rfl⟩ := h
    rw [show decide ((0 : Int) = 0) = true from rfl]
    rcases hl with ⟨n,hn,g1,g2,rfl⟩ | ⟨g0,⟨n,hn,g1,g2,rfl⟩ | ⟨g1,rfl⟩⟩
    ·simp only [sameSpot,decide_eq_true_eq] at g1
     exact List.any_eq_true.2 ⟨{ (leftL l k)[n] with write := true },List.mem_iff_getElem.2 ⟨n,by simpa using hn,by simp⟩,by simp [hasP,g1]⟩
    ·exact hasL_of_mem (by simp)
    ·exact hasL_of_mem (by simp)
end Sl
end Go.Proofs.YtpkealohodeifaaGreat
namespace Go.Proofs.YtpkealohodeifaaGreat
open Go Go.RowKit
namespace Sl
set_option maxHeartbeats 4000000
set_option maxRecDepth 4000
attribute [local irreducible] Hold HoldL HoldW
theorem Spec.into {P : Program} {w0 : World} {f : FuncId} {args : List Value} {Y X R : Hp} {post post' : Value → Hp → Prop} (h : Spec P w0 f args Y post) (e : X = Y + R) (hp : ∀ r h,post r h → post' r (h + R)) : Spec P w0 f args X post' := by
 subst e
 intro w fr hw
 rw [hadd_assoc] at hw
 refine (h w _ hw).mono ?_
 rintro e w' ⟨v,k,h1,h2,h3⟩
 exact ⟨v,k + R,h1,hp _ _ h2,by rw [hadd_assoc]; exact h3⟩
def upF (k : Lk) : List Lk → List Lk
 | [] => []
 | x :: l => if sameSpot k x = true then { x with write := true } :: l else x :: upF k l
def insF (k : Lk) : List Lk → List Lk
 | [] => [k]
 | x :: l => if behindL k x = true then k :: x :: l else x :: insF k l
def laidF (l : List Lk) (k : Lk) : List Lk := if l.any (sameSpot k) = true then upF k l else insF k l
theorem upF_at {k : Lk} : ∀ {l : List Lk} {n : Nat} (h : n < l.length),sameSpot k l[n] = true → (∀ x ∈ l.take n,sameSpot k x = false) → upF k l = l.set n { l[n] with write := true }
 | x :: l,0,_,h1,_ => by simp only [List.getElem_cons_zero] at h1; simp [upF,h1]
 | x :: l,n + 1,h,h1,h2 => by
  have hx : sameSpot k x = false := h2 x (by simp)
  have := upF_at (l := l) (n := n) (by simpa using h) (by simpa using h1) (fun y hy => h2 y (by simp [hy]))
  simp [upF,hx,this]
theorem insF_at {k : Lk} : ∀ {l : List Lk} {n : Nat} (h : n < l.length),behindL k l[n] = true → (∀ x ∈ l.take n,behindL k x = false) → insF k l = l.take n ++ k :: l.drop n
 | x :: l,0,_,h1,_ => by simp only [List.getElem_cons_zero] at h1; simp [insF,h1]
 | x :: l,n + 1,h,h1,h2 => by
  have hx : behindL k x = false := h2 x (by simp)
  have := insF_at (l := l) (n := n) (by simpa using h) (by simpa using h1) (fun y hy => h2 y (by simp [hy]))
  simp [insF,hx,this]
theorem insF_end {k : Lk} : ∀ {l : List Lk},(∀ x ∈ l,behindL k x = false) → insF k l = l ++ [k]
 | [],_ => rfl
 | x :: l,h => by
  have hx : behindL k x = false := h x (by simp)
  have := insF_end (l := l) (fun y hy => h y (by simp [hy]))
  simp [insF,hx,this]
theorem Laid.eq {l r : List Lk} {k : Lk} (h : Laid l k r) : r = laidF l k := by
 rcases h with ⟨n,hn,h1,h2,rfl⟩ | ⟨h0,h⟩
 ·rw [laidF,if_pos (List.any_eq_true.2 ⟨_,List.getElem_mem hn,h1⟩),upF_at hn h1 h2]
 ·rw [laidF,if_neg (by rw [List.any_eq_false.2 (fun x hx => by rw [h0 x hx]; simp)]; simp)]
  rcases h with ⟨n,hn,h1,h2,rfl⟩ | ⟨h1,rfl⟩
  ·rw [insF_at hn h1 h2]
  ·rw [insF_end h1]
def takeG (ws : List Int) (l : List Lk) (k : Lk) (fixed : List Int) : List Lk × List Int × Int :=
 if hasL l k.txn k.block k.write = true then (l,[],0)
 else if busyL l k fixed = true then (l,[],11)
 else if 64 ≤ (withoutL l ws).length ∧ hasL (withoutL l ws) k.txn k.block false = false then (l,[],8)
 else (laidF (withoutL l ws) k,ws,0)
theorem take_eq {l a : List Lk} {k : Lk} {fixed w : List Int} {e : Int} (h : TakeP l k fixed a w e) {ws : List Int} (hw : woundL l k = ws) : (a,w,e) = takeG ws l k fixed := by
 subst hw
 unfold TakeP leftL at h
 unfold takeG
 by_cases h1 : hasL l k.txn k.block k.write = true
 ·rw [if_pos h1] at h ⊢; obtain ⟨rfl,rfl,rfl⟩ := h; rfl
 ·rw [if_neg h1] at h ⊢
  by_cases h2 : busyL l k fixed = true
  ·rw [if_pos h2] at h ⊢; obtain ⟨rfl,rfl,rfl⟩ := h; rfl
  ·rw [if_neg h2] at h ⊢
   by_cases h3 : 64 ≤ (withoutL l (woundL l k)).length ∧ hasL (withoutL l (woundL l k)) k.txn k.block false = false
   ·rw [if_pos h3] at h ⊢; obtain ⟨rfl,rfl,rfl⟩ := h; rfl
   ·rw [if_neg h3] at h ⊢; obtain ⟨hl,rfl,rfl⟩ := h; rw [hl.eq]
def takeF (l : List Lk) (k : Lk) (fixed : List Int) : List Lk × List Int × Int := takeG (woundL l k) l k fixed
theorem takeP_eq {l a : List Lk} {k : Lk} {fixed w : List Int} {e : Int} (h : TakeP l k fixed a w e) : (a,w,e) = takeF l k fixed := take_eq h rfl
theorem laid_F (l : List Lk) (k : Lk) : Laid l k (laidF l k) := by
 by_cases h : l.any (sameSpot k) = true
 ·rcases idxF_cases (sameSpot k) l with ⟨_,h2⟩ | ⟨n,hn,_,h2,h3⟩
  ·obtain ⟨x,hx,h4⟩ := List.any_eq_true.1 h
   rw [h2 x hx] at h4; cases h4
  ·exact .inl ⟨n,hn,h2,h3,by rw [laidF,if_pos h,upF_at hn h2 h3]⟩
 ·have h0 : ∀ x ∈ l,sameSpot k x = false := by
   intro x hx
   cases e : sameSpot k x
   ·rfl
   ·exact absurd (List.any_eq_true.2 ⟨x,hx,e⟩) h
  rcases idxF_cases (behindL k) l with ⟨_,h2⟩ | ⟨n,hn,_,h2,h3⟩
  ·exact .inr ⟨h0,.inr ⟨h2,by rw [laidF,if_neg h,insF_end h2]⟩⟩
  ·exact .inr ⟨h0,.inl ⟨n,hn,h2,h3,by rw [laidF,if_neg h,insF_at hn h2 h3]⟩⟩
theorem takeF_P (l : List Lk) (k : Lk) (fixed : List Int) : TakeP l k fixed (takeF l k fixed).1 (takeF l k fixed).2.1 (takeF l k fixed).2.2 := by
 unfold takeF takeG TakeP leftL
 by_cases h1 : hasL l k.txn k.block k.write = true
 ·rw [if_pos h1,if_pos h1]; exact ⟨rfl,rfl,rfl⟩
 ·rw [if_neg h1,if_neg h1]
  by_cases h2 : busyL l k fixed = true
  ·rw [if_pos h2,if_pos h2]; exact ⟨rfl,rfl,rfl⟩
  ·rw [if_neg h2,if_neg h2]
   by_cases h3 : 64 ≤ (withoutL l (woundL l k)).length ∧ hasL (withoutL l (woundL l k)) k.txn k.block false = false
   ·rw [if_pos h3,if_pos h3]; exact ⟨rfl,rfl,rfl⟩
   ·rw [if_neg h3,if_neg h3]; exact ⟨laid_F _ _,rfl,rfl⟩
theorem free20_spec (w0 : World) (X : Hp) (v : Value) (l : List Lk) (t : Int) (hv : RdRow w0 X 4 v (encL l)) (hl : l.length ≤ 1000000000) :
  Spec Tryz.prog w0 227 [v,.int .i64 t] X (fun r h' => ∃ h,locksAt (withoutL l [t]) r h ∧ X + h = h') := by
 have hw := fun b => without_spec w0 (X + intsAt b [t]) v (.slice (some ⟨b,0,none⟩) 1 1) l [t] (hv.frame) (isRow.rd (intsAt_row (b := b) (l := [t]) (by simp)) (hf := by infer_instance)) hl (by simp)
 obtain ⟨a,c,rfl⟩ := hv.shape
 refine zN Tryz.func227 rfl Tryz.ntmps227 Tryz.results227 rfl fun fr => ?_
 repeat (first | refine zF ?_ | refine zB ?_ | refine zE ?_ | refine zK rfl rfl rfl ?_ | refine L_bs (vs := [_]) (cells := [_]) rfl rfl rfl rfl rfl rfl (fun _ => ?_))
 rename_i b1
 have hw1 := hw b1
 rw [show intsAt b1 [t] = pt b1 (.cells [.int .i64 t].toArray 3 (0,0)) from rfl] at hw1
 refine zY rfl rfl (zQ rfl rfl rfl) hw1 ?_
 rintro r _ ⟨h,hla,rfl⟩
 repeat (first | refine zE ?_ | refine zK rfl rfl rfl ?_ | refine zM ?_)
 exact ⟨[_],X + h,_,⟨rfl,trivial⟩,⟨h,hla,rfl⟩,yK.out⟩
end Sl
end Go.Proofs.YtpkealohodeifaaGreat
namespace Go.Proofs.YtpkealohodeifaaGreat
open Go Go.RowKit
namespace Sl
set_option maxHeartbeats 4000000
set_option maxRecDepth 4000
set_option synthInstance.maxHeartbeats 400000
set_option synthInstance.maxSize 100000
attribute [local irreducible] Hold HoldL HoldW
section
variable {P : Program} {g : Env}
theorem pv_max2 {x y : Operand} {ts : Array TypeId} {k : IntKind} {i j : Int} (hx : ev g x = some (.int k i)) (hy : ev g y = some (.int k j)) : PV P g (.call { callee := .builtin .max,args := #[x,y],argTypes := ts }) (.int k (max i j)) := by
 have := pv_max (P := P) (ts := ts) hx hy
 rwa [show (if i < j then j else i) = max i j by split <;> omega] at this
theorem pv_min2 {x y : Operand} {ts : Array TypeId} {k : IntKind} {i j : Int} (hx : ev g x = some (.int k i)) (hy : ev g y = some (.int k j)) : PV P g (.call { callee := .builtin .min,args := #[x,y],argTypes := ts }) (.int k (min i j)) := by
 have := pv_min (P := P) (ts := ts) hx hy
 rwa [show (if j < i then j else i) = min i j by split <;> omega] at this
end
abbrev stC (b : Nat) (c : List Value) : Hp := pt b (.cells c.toArray 143 (0,0))
theorem code22_spec (w0 : World) (n : Int) : Spec Tryz.prog w0 100 [.int .i64 n] 0 (fun r h' => r = .agg [.int .i64 n,.slice none 0 0].toArray ∧ 0 = h') := by
 refine zN Tryz.func100 rfl Tryz.ntmps100 Tryz.results100 rfl fun fr => ?_
 repeat (first | refine zF ?_ | refine zB ?_ | refine zE ?_ | refine zK rfl rfl rfl ?_ | refine zM ?_ | refine L_build (vs := [_]) (cells := [_,_]) rfl rfl rfl rfl ?_ | refine L_stA rfl (vs := [_,_]) rfl rfl rfl rfl (c' := [_,_]) rfl rfl ?_ | refine L_alloc (c := [_,_]) rfl rfl rfl (fun _ => ?_))
 exact ⟨[_],0,_,⟨⟨_,rfl,zL rfl rfl rfl⟩,trivial⟩,⟨rfl,rfl⟩,yK.out⟩
def isTx (t : Int) (p : Prp) : Bool := decide (p.txn = t)
theorem prepared1_spec (w0 : World) (e : List Value) (p : Prp) (Y : Hp) (he : Rep.rd w0 Y p e) (b : Nat) (t : Int) :
  Spec Tryz.prog w0 226 [.agg e.toArray,.pointer (some ⟨b,0,none⟩)] (int1 b t) (fun r h' => r = .bool (isTx t p) ∧ int1 b t = h') := by
 obtain ⟨a,c,a2,c2,rfl,_,_⟩ := he
 refine zN Tryz.func226 rfl Tryz.ntmps226 Tryz.results226 rfl fun fr => ?_
 repeat (first | refine zF ?_ | refine zB ?_ | refine zE ?_ | refine zK rfl rfl rfl ?_ | refine zZ rfl rfl rfl rfl rfl ?_ | refine L_ld rfl rfl rfl rfl rfl ?_ | refine L_box rfl (c := [_,_,_,_,_,_,_]) rfl rfl rfl (fun _ => ?_))
 refine yH rfl rfl (pv_eql rfl rfl) ?_
 repeat (first | refine zE ?_ | refine zK rfl rfl rfl ?_ | refine zM ?_)
 exact ⟨[_],_,_,⟨rfl,trivial⟩,⟨rfl,rfl⟩,yK.out⟩
section
variable (w0 : World) (X : Hp) (b : Nat) (lo hi ep vb vk vl vp vd vo vx : Value)
theorem prepared_spec (ps : List Prp) (t : Int) (hp : RdL w0 X vp ps) (hl : ps.length ≤ 1000000000) :
  Spec Tryz.prog w0 190 [.pointer (some ⟨b,0,none⟩),.int .i64 t] (X + stC b [lo,hi,ep,vb,vk,vl,vp,vd,vo,vx]) (fun r h' => r = .int .i64 (idxF (isTx t) ps) ∧ X + stC b [lo,hi,ep,vb,vk,vl,vp,vd,vo,vx] = h') := by
 obtain ⟨a,c,rfl⟩ := hp.shape
 refine zN Tryz.func190 rfl Tryz.ntmps190 Tryz.results190 rfl fun fr => ?_
 repeat (first | refine zF ?_ | refine zB ?_ | refine zE ?_ | refine zK rfl rfl rfl ?_ | refine zZ rfl rfl rfl rfl rfl ?_ | refine L_ld rfl rfl rfl rfl rfl ?_ | refine L_box rfl (c := [_]) rfl rfl rfl (fun _ => ?_) | refine L_clo rfl rfl rfl ?_)
 rename_i b3
 refine zY rfl rfl (zQ rfl rfl rfl) (indexFuncPrp_spec w0 (X + int1 b3 t) _ ps 226 [.pointer (some ⟨b3,0,none⟩)] (isTx t) (hp.frame) hl (fun Y x e hx he => Spec.frameL (hadd_comm _ _) (prepared1_spec w0 e x Y he b3 t))) ?_
 rintro _ _ ⟨rfl,rfl⟩
 repeat (first | refine zE ?_ | refine zK rfl rfl rfl ?_ | refine zM ?_)
 exact ⟨[_],_,_,⟨rfl,trivial⟩,⟨rfl,rfl⟩,yK.out⟩
theorem fixed_spec (ps : List Prp) (hp : RdL w0 X vp ps) (hl : ps.length ≤ 1000000000) :
  Spec Tryz.prog w0 234 [.pointer (some ⟨b,0,none⟩)] (X + stC b [lo,hi,ep,vb,vk,vl,vp,vd,vo,vx]) (fun r h' => ∃ h,OwL w0 0 (ps.map Prp.txn) r h ∧ X + stC b [lo,hi,ep,vb,vk,vl,vp,vd,vo,vx] + h = h') := by
 obtain ⟨a,c,rfl⟩ := hp.shape
 refine zN Tryz.func234 rfl Tryz.ntmps234 Tryz.results234 rfl fun fr => ?_
 repeat (first | refine zF ?_ | refine zR ?_ | refine zB ?_ | refine zE ?_ | refine zK rfl rfl rfl ?_ | refine zZ rfl rfl rfl rfl rfl ?_ | refine L_ld rfl rfl rfl rfl rfl ?_ | refine L_len rfl rfl rfl ?_)
 refine hold_count ps.length (fun k g L => ∃ (vo' : Value) (h R : Hp),g = [(3,vo'),(10,.slice a ps.length c),(11,.int .i64 ps.length),(12,.int .i64 k)] ∧ OwL w0 0 ((ps.take k).map Prp.txn) vo' h ∧ L = X + stC b [lo,hi,ep,vb,vk,vl,.slice a ps.length c,vd,vo,vx] + h + fr + R) _
  ⟨_,0,_,rfl,OwL.nil _ _,by simp only [yB]; exact yK.out⟩ (by repeat (first | exact zT _ | refine zO rfl ?_)) ?_
 rintro k g L hk ⟨vo',h,R,rfl,ho,rfl⟩
 repeat (first | refine zF ?_ | refine zB ?_)
 refine yG rfl rfl (pv_lss rfl rfl) (fun n1 => ?_) (fun n1 => ?_)
 ·have hx : k < ps.length := by omega
  obtain ⟨b2,o2,rfl,e,⟨a1,c1,a2,c2,rfl,_,_⟩,hat⟩ := hp.at hx
  repeat (first | refine zF ?_ | refine zR ?_ | refine zB ?_ | refine zE ?_ | refine zK rfl rfl rfl ?_ | refine zZ rfl rfl rfl rfl rfl ?_ | refine L_ld rfl rfl rfl rfl rfl ?_ | refine zP ?_ | refine zJ rfl ?_ | refine L_idx rfl rfl (by omega) rfl rfl ?_ | refine L_atA rfl (by assumption) rfl rfl rfl rfl ?_ | refine L_stA rfl (vs := [_,_,_,_,_,_,_]) rfl rfl rfl rfl (c' := [_,_,_,_,_,_,_]) rfl rfl ?_ | refine L_alloc (c := [_,_,_,_,_,_,_]) rfl rfl rfl (fun _ => ?_) | refine L_bs (vs := [_]) (cells := [_]) rfl rfl rfl rfl rfl rfl (fun _ => ?_))
  rename_i b3 b4
  refine L_eff rfl rfl (ev_appendL (X := 0) (ns := [ps[k].txn]) (h := h) rfl rfl ho (rd_one rfl) (All2.one rfl) rfl rfl rfl rfl rfl (by simp only [List.length_map,List.length_take,List.length_singleton]; omega)) ?_
  rintro vo'' _ ⟨h',ho',rfl⟩
  repeat (first | refine zB ?_ | refine zE ?_ | refine zK rfl rfl rfl ?_ | refine L_add rfl rfl (by omega) (by omega) rfl rfl ?_)
  refine ⟨hx,_,(by repeat (first | exact zT _ | refine zO rfl ?_)),vo'',h',_,rfl,?_,yK.out⟩
  rw [List.take_succ_eq_append_getElem hx,List.map_append]
  exact ho'
 ·rw [List.take_of_length_le (by omega)] at ho
  repeat (first | refine zF ?_ | refine yD ?_ | refine zB ?_ | refine zE ?_ | refine zK rfl rfl rfl ?_ | refine zM ?_ | refine zI rfl ?_)
  exact ⟨[_],_,_,⟨rfl,trivial⟩,⟨h,ho,rfl⟩,yK.out⟩
theorem hasB_spec (l h n : Int) :
  Spec Tryz.prog w0 133 [.pointer (some ⟨b,0,none⟩),.int .i64 n] (stC b [.int .i64 l,.int .i64 h,ep,vb,vk,vl,vp,vd,vo,vx]) (fun r h' => r = .bool (decide (l ≤ n ∧ n < h)) ∧ stC b [.int .i64 l,.int .i64 h,ep,vb,vk,vl,vp,vd,vo,vx] = h') := by
 refine zN Tryz.func133 rfl Tryz.ntmps133 Tryz.results133 rfl fun fr => ?_
 repeat (first | refine zF ?_ | refine zB ?_ | refine zE ?_ | refine zK rfl rfl rfl ?_ | refine zZ rfl rfl rfl rfl rfl ?_ | refine L_ld rfl rfl rfl rfl rfl ?_)
 refine yG rfl rfl (pv_geq rfl rfl) (fun n1 => ?_) (fun n1 => ?_)
 ·repeat (first | refine zK rfl rfl rfl ?_ | refine zZ rfl rfl rfl rfl rfl ?_ | refine L_ld rfl rfl rfl rfl rfl ?_)
  refine yH rfl rfl (pv_lss rfl rfl) ?_
  repeat (first | refine zE ?_ | refine zK rfl rfl rfl ?_ | refine zM ?_)
  exact ⟨[_],_,_,⟨rfl,trivial⟩,⟨congrArg Value.bool (decide_eq_decide.2 ⟨fun h => ⟨by omega,h⟩,fun h => h.2⟩),rfl⟩,yK.out⟩
 ·repeat (first | refine zE ?_ | refine zK rfl rfl rfl ?_ | refine L_skip rfl rfl ?_ | refine zM ?_)
  exact ⟨[_],_,_,⟨rfl,trivial⟩,⟨(bool_no (by omega)),rfl⟩,yK.out⟩
theorem covered_spec (l h x y : Int) :
  Spec Tryz.prog w0 194 [.pointer (some ⟨b,0,none⟩),.int .i64 x,.int .i64 y] (stC b [.int .i64 l,.int .i64 h,ep,vb,vk,vl,vp,vd,vo,vx]) (fun r h' => r = .agg [.int .i64 (max x l),.int .i64 (max (min y h) (max x l))].toArray ∧ stC b [.int .i64 l,.int .i64 h,ep,vb,vk,vl,vp,vd,vo,vx] = h') := by
 refine zN Tryz.func194 rfl Tryz.ntmps194 Tryz.results194 rfl fun fr => ?_
 repeat (first | refine zF ?_ | refine zB ?_ | refine zE ?_ | refine L_alloc (c := [_,_]) rfl rfl rfl (fun _ => ?_))
 refine yC [23] [0,1,2,3,4,5,6,7,8,9,10,11,12,13,14,15,16,17,18,19,20,21,22,23] (by kernel_rfl) rfl (by kernel_rfl) (by kernel_rfl) ?_
 repeat (first | refine yI rfl rfl rfl rfl rfl ?_ | refine yE rfl rfl rfl rfl (yA rfl rfl rfl) ?_ | refine W_load rfl rfl rfl rfl (yF rfl) (zG rfl (zS rfl)) ?_)
 refine yE rfl rfl rfl rfl (pv_max2 rfl rfl) ?_
 repeat (first | refine yI rfl rfl rfl rfl rfl ?_ | refine yE rfl rfl rfl rfl (yA rfl rfl rfl) ?_ | refine W_load rfl rfl rfl rfl (yF rfl) (zG rfl (zS rfl)) ?_)
 refine yE rfl rfl rfl rfl (pv_min2 rfl rfl) ?_
 repeat (first | refine yI rfl rfl rfl rfl rfl ?_ | refine yE rfl rfl rfl rfl (yA rfl rfl rfl) ?_ | refine W_load rfl rfl rfl rfl (yF rfl) (zG rfl (zS rfl)) ?_)
 refine yE rfl rfl rfl rfl (pv_max2 rfl rfl) ?_
 refine yE rfl rfl rfl rfl (pv_max2 rfl rfl) ?_
 repeat (refine yE rfl rfl rfl rfl (pv_build (vs := [_,_]) (cells := [_,_]) rfl rfl) ?_)
 refine W_eff rfl rfl rfl rfl (ev_storeA (vs := [_,_]) rfl rfl rfl rfl (c := [_,_]) (Nat.le_of_ble_eq_true rfl) (c' := [_,_]) rfl) (Kept.all _) ?_
 rintro _ _ rfl
 refine ⟨(by repeat (first | exact trivial | exact zG rfl (zS rfl) | exact zL rfl rfl rfl | exact zX rfl (by assumption) rfl | exact zH rfl (by assumption) rfl | exact zH rfl (by assumption) (by assumption) | refine ⟨?_,?_⟩)),?_⟩
 repeat (refine yJ ?_)
 repeat (refine zM ?_)
 exact ⟨[_],_,_,⟨⟨_,rfl,zL rfl rfl rfl⟩,trivial⟩,⟨rfl,rfl⟩,yK.out⟩
theorem span22_spec (l h : Int) :
  Spec Tryz.prog w0 215 [.pointer (some ⟨b,0,none⟩)] (stC b [.int .i64 l,.int .i64 h,ep,vb,vk,vl,vp,vd,vo,vx]) (fun r h' => r = .agg [.int .i64 l,.int .i64 h].toArray ∧ stC b [.int .i64 l,.int .i64 h,ep,vb,vk,vl,vp,vd,vo,vx] = h') := by
 refine zN Tryz.func215 rfl Tryz.ntmps215 Tryz.results215 rfl fun fr => ?_
 repeat (first | refine zF ?_ | refine zB ?_ | refine zE ?_ | refine L_alloc (c := [_,_]) rfl rfl rfl (fun _ => ?_))
 refine yC [11] [0,1,2,3,4,5,6,7,8,9,10,11] (by kernel_rfl) rfl (by kernel_rfl) (by kernel_rfl) ?_
 repeat (first | refine yI rfl rfl rfl rfl rfl ?_ | refine yE rfl rfl rfl rfl (yA rfl rfl rfl) ?_ | refine W_load rfl rfl rfl rfl (yF rfl) (zG rfl (zS rfl)) ?_ | refine yE rfl rfl rfl rfl (pv_build (vs := [_,_]) (cells := [_,_]) rfl rfl) ?_)
 refine W_eff rfl rfl rfl rfl (ev_storeA (vs := [_,_]) rfl rfl rfl rfl (c := [_,_]) (Nat.le_of_ble_eq_true rfl) (c' := [_,_]) rfl) (Kept.all _) ?_
 rintro _ _ rfl
 refine ⟨(by repeat (first | exact trivial | exact zG rfl (zS rfl) | exact zL rfl rfl rfl | exact zX rfl (by assumption) rfl | exact zH rfl (by assumption) rfl | exact zH rfl (by assumption) (by assumption) | refine ⟨?_,?_⟩)),?_⟩
 repeat (refine yJ ?_)
 repeat (refine zM ?_)
 exact ⟨[_],_,_,⟨⟨_,rfl,zL rfl rfl rfl⟩,trivial⟩,⟨rfl,rfl⟩,yK.out⟩
def mineF (ls : List Lk) (p : Prp) : List Int := if 0 < p.snap then ((List.range 64).map (fun (n : Nat) => (n : Int))).filter (fun n => decide (p.lo ≤ n ∧ n < p.hi) && hasL ls p.txn n false) else []
def mineTo (ls : List Lk) (p : Prp) (n : Nat) : List Int := ((List.range n).map (fun (n : Nat) => (n : Int))).filter (fun n => decide (p.lo ≤ n ∧ n < p.hi) && hasL ls p.txn n false)
theorem mineTo_succ (ls : List Lk) (p : Prp) (n : Nat) : mineTo ls p (n + 1) = mineTo ls p n ++ if decide (p.lo ≤ (n : Int) ∧ (n : Int) < p.hi) && hasL ls p.txn n false then [(n : Int)] else [] := by
 unfold mineTo
 rw [List.range_succ,List.map_append,List.filter_append]
 congr 1
 simp only [List.map_cons,List.map_nil,List.filter_cons,List.filter_nil]
theorem mineTo_len (ls : List Lk) (p : Prp) (n : Nat) : (mineTo ls p n).length ≤ n := by
 unfold mineTo
 exact Nat.le_trans (List.length_filter_le _ _) (by simp)
theorem mineTo_skip (ls : List Lk) (p : Prp) : ∀ n : Nat,(n : Int) ≤ p.lo → mineTo ls p n = []
 | 0,_ => rfl
 | n + 1,h => by rw [mineTo_succ,mineTo_skip ls p n (by omega),if_neg (by simp; omega)]; rfl
theorem mineTo_end (ls : List Lk) (p : Prp) (n : Nat) (h : p.hi ≤ (n : Int)) : ∀ k : Nat,mineTo ls p (n + k) = mineTo ls p n
 | 0 => rfl
 | k + 1 => by rw [← Nat.add_assoc,mineTo_succ,mineTo_end ls p n h k,if_neg (by simp; omega),List.append_nil]
theorem mine_spec (ls : List Lk) (p : Prp) (e : List Value) (he : ∃ Y,Rep.rd w0 Y p e) (hls : RdL w0 X vl ls) (hl : ls.length ≤ 1000000000) :
  Spec Tryz.prog w0 132 [.pointer (some ⟨b,0,none⟩),.agg e.toArray] (X + stC b [lo,hi,ep,vb,vk,vl,vp,vd,vo,vx]) (fun r h' => ∃ h,OwL w0 0 (mineF ls p) r h ∧ X + stC b [lo,hi,ep,vb,vk,vl,vp,vd,vo,vx] + h = h') := by
 obtain ⟨Y,a1,c1,a2,c2,rfl,_,_⟩ := he
 have hhas := fun n => has20_spec w0 X vl ls p.txn n false (rdL_locks.1 hls) hl
 obtain ⟨a,c,rfl⟩ := hls.shape
 refine zN Tryz.func132 rfl Tryz.ntmps132 Tryz.results132 rfl fun fr => ?_
 repeat (first | refine zF ?_ | refine zB ?_ | refine zE ?_ | refine zK rfl rfl rfl ?_ | refine zZ rfl rfl rfl rfl rfl ?_ | refine L_ld rfl rfl rfl rfl rfl ?_ | refine L_box rfl (c := [_,_,_,_,_,_,_]) rfl rfl rfl (fun _ => ?_))
 refine yH rfl rfl (pv_max2 rfl rfl) ?_
 repeat (first | refine zR ?_ | refine zE ?_ | refine zK rfl rfl rfl ?_)
 rename_i b3
 have h0 : ∃ n0 : Nat,max p.lo 0 = n0 := ⟨(max p.lo 0).toNat,by omega⟩
 obtain ⟨n0,h0⟩ := h0
 rw [h0]
 refine hold_loop (fun m g L => ∃ (k : Nat) (v : Value) (h R : Hp),n0 ≤ k ∧ (k = n0 ∨ k ≤ 64) ∧ m = 64 - k ∧ g = [(0,.pointer (some ⟨b,0,none⟩)),(3,.pointer (some ⟨b3,0,none⟩)),(5,v),(6,.int .i64 (k : Int))] ∧ OwL w0 0 (if 0 < p.snap then mineTo ls p k else []) v h ∧ (k = n0 ∨ (k : Int) ≤ p.hi ∧ 0 < p.snap) ∧
   L = X + stC b [lo,hi,ep,vb,vk,.slice a ls.length c,vp,vd,vo,vx] + pt b3 (.cells [.int .i64 p.txn,.int .i64 p.age,.int .i64 p.snap,.int .i64 p.lo,.int .i64 p.hi,.slice a1 p.parts.length c1,.slice a2 p.writes.length c2].toArray 57 (0,0)) + h + fr + R) _ _ ⟨n0,_,0,0,by omega,.inl rfl,rfl,rfl,?_,.inl rfl,by simp only [yB]; ac_rfl⟩ (by repeat (first | exact zT _ | refine zO rfl ?_)) ?_
 ·have : (if 0 < p.snap then mineTo ls p n0 else []) = [] := by
   split
   ·by_cases hz : n0 = 0
    ·subst hz; rfl
    ·exact mineTo_skip ls p n0 (by omega)
   ·rfl
  rw [this]
  exact OwL.nil _ _
 rintro m g L ⟨k,v,h,R,k1,k2,rfl,rfl,ho,k3,rfl⟩
 have hskip : k = n0 → mineTo ls p k = [] := by
  rintro rfl
  by_cases hz : k = 0
  ·subst hz; rfl
  ·exact mineTo_skip ls p k (by omega)
 have done : (p.snap ≤ 0 ∨ ¬ ((k : Int) < min p.hi 64)) → (if 0 < p.snap then mineTo ls p k else []) = mineF ls p := by
  intro hd
  show _ = if 0 < p.snap then mineTo ls p 64 else []
  split
  ·rename_i hs
   rcases Nat.lt_or_ge 64 k with hk | hk
   ·have e : k = n0 := by omega
    rw [hskip e,mineTo_skip ls p 64 (by omega)]
   ·have := mineTo_end ls p k
    rcases Nat.eq_or_lt_of_le hk with rfl | hk2
    ·rfl
    ·rw [show mineTo ls p 64 = mineTo ls p (k + (64 - k)) by rw [Nat.add_sub_cancel' hk],mineTo_end ls p k (by omega)]
  ·rfl
 repeat (first | refine zF ?_ | refine zB ?_ | refine zZ rfl rfl rfl rfl rfl ?_ | refine L_ld rfl rfl rfl rfl rfl ?_)
 refine yG rfl rfl (pv_gtr rfl rfl) (fun n1 => ?_) (fun n1 => ?_)
 ·repeat (first | refine zK rfl rfl rfl ?_ | refine zZ rfl rfl rfl rfl rfl ?_ | refine L_ld rfl rfl rfl rfl rfl ?_)
  refine yH rfl rfl (pv_min2 rfl rfl) ?_
  refine yG rfl rfl (pv_lss rfl rfl) (fun n2 => ?_) (fun n2 => ?_)
  ·rw [if_pos n1] at ho
   have k4 : k < 64 := by omega
   have hstep := mineTo_succ ls p k
   have hlen := mineTo_len ls p k
   repeat (first | refine zF ?_ | refine zR ?_ | refine zE ?_ | refine zK rfl rfl rfl ?_ | refine zP ?_ | refine zJ rfl ?_)
   refine yC [8] [0,1,2,3,4,5,6,7,8] (by kernel_rfl) rfl (by kernel_rfl) (by kernel_rfl) ?_
   repeat (first | refine yI rfl rfl rfl rfl rfl ?_ | refine yE rfl rfl rfl rfl (yA rfl rfl rfl) ?_ | refine W_load rfl rfl rfl rfl (yF rfl) (zG rfl (zS rfl)) ?_)
   refine W_call rfl rfl rfl rfl (zQ rfl rfl rfl) (hhas k) (Kept.all _) ?_
   rintro _ _ ⟨rfl,rfl⟩
   refine ⟨(by repeat (first | exact trivial | exact zG rfl (zS rfl) | exact zL rfl rfl rfl | exact zX rfl (by assumption) rfl | exact zH rfl (by assumption) rfl | exact zH rfl (by assumption) (by assumption) | refine ⟨?_,?_⟩)),?_⟩
   repeat (refine yJ ?_)
   have hlo : p.lo ≤ (k : Int) ∧ (k : Int) < p.hi := by omega
   rw [decide_eq_true hlo,Bool.true_and] at hstep
   cases hh : hasL ls p.txn k false
   ·rw [hh,if_neg (by simp),List.append_nil] at hstep
    repeat (first | refine zB ?_ | refine zE ?_ | refine zK rfl rfl rfl ?_ | refine zP ?_ | refine zI rfl ?_ | refine L_add rfl rfl (by omega) (by omega) rfl rfl ?_)
    refine ⟨64 - (k + 1),_,by omega,(by repeat (first | exact zT _ | refine zO rfl ?_)),k + 1,v,h,_,by omega,by omega,rfl,rfl,?_,.inr ⟨by omega,n1⟩,yK.out⟩
    rw [if_pos n1,hstep]
    exact ho
   ·rw [hh,if_pos rfl] at hstep
    repeat (first | refine zB ?_ | refine zK rfl rfl rfl ?_ | refine zJ rfl ?_ | refine L_bs (vs := [_]) (cells := [_]) rfl rfl rfl rfl rfl rfl (fun _ => ?_))
    refine L_eff rfl rfl (ev_appendL (X := 0) (ns := [(k : Int)]) (h := h) rfl rfl ho (rd_one rfl) (All2.one rfl) rfl rfl rfl rfl rfl (by simp only [List.length_singleton]; omega)) ?_
    rintro vo'' _ ⟨h',ho',rfl⟩
    repeat (first | refine zB ?_ | refine zE ?_ | refine zK rfl rfl rfl ?_ | refine L_add rfl rfl (by omega) (by omega) rfl rfl ?_)
    refine ⟨64 - (k + 1),_,by omega,(by repeat (first | exact zT _ | refine zO rfl ?_)),k + 1,vo'',h',_,by omega,by omega,rfl,rfl,?_,.inr ⟨by omega,n1⟩,yK.out⟩
    rw [if_pos n1,hstep]
    exact ho'
  ·rw [done (.inr n2)] at ho
   repeat (first | refine zF ?_ | refine yD ?_ | refine zB ?_ | refine zE ?_ | refine zK rfl rfl rfl ?_ | refine zM ?_ | refine zI rfl ?_)
   exact ⟨[_],_,_,⟨rfl,trivial⟩,⟨h,ho,rfl⟩,yK.out⟩
 ·rw [done (.inl (by omega))] at ho
  repeat (first | refine zF ?_ | refine yD ?_ | refine zB ?_ | refine zE ?_ | refine zK rfl rfl rfl ?_ | refine L_skip rfl rfl ?_ | refine zM ?_ | refine zI rfl ?_)
  exact ⟨[_],_,_,⟨rfl,trivial⟩,⟨h,ho,rfl⟩,yK.out⟩
end
end Sl
end Go.Proofs.YtpkealohodeifaaGreat
namespace Go.Proofs.YtpkealohodeifaaGreat
open Go Go.RowKit
namespace Sl
set_option maxHeartbeats 4000000
set_option maxRecDepth 4000
set_option synthInstance.maxHeartbeats 400000
set_option synthInstance.maxSize 100000
attribute [local irreducible] Hold HoldL HoldW
def sumMine (ls : List Lk) (ps : List Prp) : Nat := (ps.map fun p => (mineF ls p).length).sum
theorem mineF_len (ls : List Lk) (p : Prp) : (mineF ls p).length ≤ 64 := by
 unfold mineF
 split
 ·exact mineTo_len ls p 64
 ·simp
theorem sumMine_len (ls : List Lk) : ∀ ps : List Prp,sumMine ls ps ≤ 64 * ps.length
 | [] => by simp [sumMine]
 | p :: ps => by
  have := mineF_len ls p
  have := sumMine_len ls ps
  simp only [sumMine,List.map_cons,List.sum_cons,List.length_cons] at *
  omega
theorem sumMine_succ (ls : List Lk) (ps : List Prp) (k : Nat) (h : k < ps.length) : sumMine ls (ps.take (k + 1)) = sumMine ls (ps.take k) + (mineF ls ps[k]).length := by
 unfold sumMine
 rw [List.take_succ_eq_append_getElem h,List.map_append,List.sum_append]
 simp
section
variable (w0 : World) (X : Hp) (b : Nat) (lo hi ep vb vk vl vp vd vo vx : Value)
theorem keptN_spec (ls : List Lk) (ps : List Prp) (ks : List Kpt) (hls : RdL w0 X vl ls) (hp : RdL w0 X vp ps) (hk : RdL w0 X vk ks) (hl : ls.length ≤ 1000000000) (hpl : ps.length ≤ 1000000000) (hkl : ks.length ≤ 1000000000) :
  Spec Tryz.prog w0 197 [.pointer (some ⟨b,0,none⟩)] (X + stC b [lo,hi,ep,vb,vk,vl,vp,vd,vo,vx]) (fun r h' => ∃ E,r = .int .i64 ((ks.length + sumMine ls ps : Nat) : Int) ∧ X + stC b [lo,hi,ep,vb,vk,vl,vp,vd,vo,vx] + E = h') := by
 have hmine := fun p e he => mine_spec w0 X b lo hi ep vb vk vl vp vd vo vx ls p e he hls hl
 obtain ⟨a,c,rfl⟩ := hp.shape
 obtain ⟨a2,c2,rfl⟩ := hk.shape
 refine zN Tryz.func197 rfl Tryz.ntmps197 Tryz.results197 rfl fun fr => ?_
 repeat (first | refine zF ?_ | refine zR ?_ | refine zB ?_ | refine zE ?_ | refine zK rfl rfl rfl ?_ | refine zZ rfl rfl rfl rfl rfl ?_ | refine L_ld rfl rfl rfl rfl rfl ?_ | refine L_len rfl rfl rfl ?_)
 refine hold_count ps.length (fun k g L => ∃ (E R : Hp),g = [(0,.pointer (some ⟨b,0,none⟩)),(3,.int .i64 ((ks.length + sumMine ls (ps.take k) : Nat) : Int)),(16,.slice a ps.length c),(17,.int .i64 ps.length),(18,.int .i64 k)] ∧ L = X + stC b [lo,hi,ep,vb,.slice a2 ks.length c2,vl,.slice a ps.length c,vd,vo,vx] + E + fr + R) _
  ⟨0,_,rfl,by simp only [yB]; exact yK.out⟩ (by repeat (first | exact zT _ | refine zO rfl ?_)) ?_
 rintro k g L hk ⟨E,R,rfl,rfl⟩
 repeat (first | refine zF ?_ | refine zB ?_)
 refine yG rfl rfl (pv_lss rfl rfl) (fun n1 => ?_) (fun n1 => ?_)
 ·have hx : k < ps.length := by omega
  obtain ⟨b2,o2,rfl,e,he,hat⟩ := hp.at hx
  have hm := hmine ps[k] e ⟨_,he⟩
  obtain ⟨a1,c1,a3,c3,rfl,_,_⟩ := he
  have hs := sumMine_succ ls ps k hx
  have hle := mineF_len ls ps[k]
  have hle2 := sumMine_len ls (ps.take k)
  rw [List.length_take] at hle2
  repeat (first | refine zF ?_ | refine zR ?_ | refine zB ?_ | refine zE ?_ | refine zK rfl rfl rfl ?_ | refine zP ?_ | refine zJ rfl ?_ | refine L_idx rfl rfl (by omega) rfl rfl ?_ | refine L_atA rfl (by assumption) rfl rfl rfl rfl ?_ | refine L_ldA rfl (vs := [_,_,_,_,_,_,_]) rfl rfl rfl rfl rfl ?_ | refine L_stA rfl (vs := [_,_,_,_,_,_,_]) rfl rfl rfl rfl (c' := [_,_,_,_,_,_,_]) rfl rfl ?_ | refine L_alloc (c := [_,_,_,_,_,_,_]) rfl rfl rfl (fun _ => ?_))
  refine zY rfl rfl (zQ rfl rfl rfl) hm ?_
  rintro vm _ ⟨h,ho,rfl⟩
  obtain ⟨a4,c4,rfl⟩ := ho.shape
  repeat (first | refine zB ?_ | refine zE ?_ | refine zK rfl rfl rfl ?_ | refine L_len rfl rfl rfl ?_ | refine L_add rfl rfl (by omega) (by omega) rfl rfl ?_)
  rw [show ((ks.length + sumMine ls (ps.take k) : Nat) : Int) + ((mineF ls ps[k]).length : Int) = ((ks.length + sumMine ls (ps.take (k + 1)) : Nat) : Int) by rw [hs]; omega]
  exact ⟨hx,_,(by repeat (first | exact zT _ | refine zO rfl ?_)),E + h,_,rfl,yK.out⟩
 ·rw [List.take_of_length_le (by omega)]
  repeat (first | refine zF ?_ | refine yD ?_ | refine zB ?_ | refine zE ?_ | refine zK rfl rfl rfl ?_ | refine zM ?_ | refine zI rfl ?_)
  exact ⟨[_],_,_,⟨rfl,trivial⟩,⟨E,rfl,rfl⟩,yK.out⟩
end
theorem bool_yes' {x : Bool} (h : x = true) : Value.bool true = .bool x := by rw [h]
theorem bool_no' {x : Bool} (h : x = false) : Value.bool false = .bool x := by rw [h]
theorem clientOf_spec (w0 : World) (t : Int) : Spec Tryz.prog w0 232 [.int .i64 t] 0 (fun r h' => r = .int .i64 (t.fdiv 1048576) ∧ 0 = h') := by
 refine zN Tryz.func232 rfl Tryz.ntmps232 Tryz.results232 rfl fun fr => ?_
 repeat (first | refine zF ?_ | refine zB ?_ | refine zE ?_ | refine zK rfl rfl rfl ?_)
 refine yH rfl rfl (pv_shr rfl rfl (by decide)) ?_
 repeat (first | refine zE ?_ | refine zK rfl rfl rfl ?_ | refine zM ?_)
 exact ⟨[_],0,_,⟨rfl,trivial⟩,⟨rfl,rfl⟩,yK.out⟩
def eldF (txn t : Int) : Bool := decide (t.fdiv 1048576 = txn.fdiv 1048576) && decide (t < txn)
theorem forget1_spec (w0 : World) (t : Int) (b : Nat) (txn : Int) :
  Spec Tryz.prog w0 231 [.int .i64 t,.pointer (some ⟨b,0,none⟩)] (int1 b txn) (fun r h' => r = .bool (eldF txn t) ∧ int1 b txn = h') := by
 refine zN Tryz.func231 rfl Tryz.ntmps231 Tryz.results231 rfl fun fr => ?_
 repeat (first | refine zF ?_ | refine zB ?_ | refine zE ?_ | refine zK rfl rfl rfl ?_)
 refine yC [1,3] [0,2,1,3,4,5,6,7,8,9,10] (by kernel_rfl) rfl (by kernel_rfl) (by kernel_rfl) ?_
 repeat (first | refine yI rfl rfl rfl rfl rfl ?_ | refine W_load rfl rfl rfl rfl (yF rfl) (zG rfl (zS rfl)) ?_)
 refine W_call rfl rfl rfl rfl (zQ rfl rfl rfl) (clientOf_spec w0 t) (Kept.all _) ?_
 rintro _ _ ⟨rfl,rfl⟩
 refine ⟨(by repeat (first | exact trivial | exact zG rfl (zS rfl) | exact zL rfl rfl rfl | exact zX rfl (by assumption) rfl | exact zH rfl (by assumption) rfl | exact zH rfl (by assumption) (by assumption) | refine ⟨?_,?_⟩)),?_⟩
 skip
 refine W_call rfl rfl rfl rfl (zQ rfl rfl rfl) (clientOf_spec w0 txn) (Kept.all _) ?_
 rintro _ _ ⟨rfl,rfl⟩
 refine ⟨(by repeat (first | exact trivial | exact zG rfl (zS rfl) | exact zL rfl rfl rfl | exact zX rfl (by assumption) rfl | exact zH rfl (by assumption) rfl | exact zH rfl (by assumption) (by assumption) | refine ⟨?_,?_⟩)),?_⟩
 refine W_bool rfl rfl rfl rfl (pv_eql rfl rfl) (fun n1 => ?_) (fun n1 => ?_)
 ·repeat (first | refine yI rfl rfl rfl rfl rfl ?_ | refine W_load rfl rfl rfl rfl (yF rfl) (zG rfl (zS rfl)) ?_)
  refine W_bool rfl rfl rfl rfl (pv_lss rfl rfl) (fun n2 => ?_) (fun n2 => ?_)
  ·repeat (first | refine yJ ?_ | refine yI rfl rfl rfl rfl rfl ?_)
   repeat (refine zM ?_)
   exact ⟨[_],_,_,⟨rfl,trivial⟩,⟨bool_yes' (by unfold eldF; rw [n1,n2]; rfl),rfl⟩,yK.out⟩
  ·repeat (first | refine yJ ?_ | refine yI rfl rfl rfl rfl rfl ?_)
   repeat (refine zM ?_)
   exact ⟨[_],_,_,⟨rfl,trivial⟩,⟨bool_no' (by unfold eldF; rw [n1,n2]; rfl),rfl⟩,yK.out⟩
 ·repeat (first | refine yJ ?_ | refine yI rfl rfl rfl rfl rfl ?_ | refine W_skip rfl rfl rfl rfl ?_)
  repeat (refine zM ?_)
  exact ⟨[_],_,_,⟨rfl,trivial⟩,⟨bool_no' (by unfold eldF; rw [n1]; rfl),rfl⟩,yK.out⟩
section
variable (w0 : World) (X : Hp) (b : Nat) (lo hi ep vb vk vl vp vd vo vx : Value)
theorem forget_spec (d : List Int) (h : Hp) (t : Int) (hd : OwL w0 0 d vd h) (hl : d.length ≤ 1000000000) :
  Spec Tryz.prog w0 192 [.pointer (some ⟨b,0,none⟩),.int .i64 t] (X + stC b [lo,hi,ep,vb,vk,vl,vp,vd,vo,vx] + h) (fun r h' => ∃ vd' h2,r = .tuple #[] ∧ OwL w0 0 (d.filter fun x => !eldF t x) vd' h2 ∧ X + stC b [lo,hi,ep,vb,vk,vl,vp,vd',vo,vx] + h2 = h') := by
 obtain ⟨a,c,rfl⟩ := hd.shape
 refine zN Tryz.func192 rfl Tryz.ntmps192 Tryz.results192 rfl fun fr => ?_
 repeat (first | refine zF ?_ | refine zB ?_ | refine zE ?_ | refine zK rfl rfl rfl ?_ | refine zZ rfl rfl rfl rfl rfl ?_ | refine L_ld rfl rfl rfl rfl rfl ?_ | refine L_box rfl (c := [_]) rfl rfl rfl (fun _ => ?_) | refine L_clo rfl rfl rfl ?_)
 rename_i b3
 refine zY rfl rfl (zQ rfl rfl rfl) (deleteFuncI_spec w0 (int1 b3 t) d _ h 231 [.pointer (some ⟨b3,0,none⟩)] (eldF t) hd.plainI hl (fun x hx => forget1_spec w0 x b3 t)) ?_
 rintro vd' _ ⟨h2,ho,rfl⟩
 obtain ⟨a2,c2,rfl⟩ := ho.shape
 repeat (first | refine zE ?_ | refine zK rfl rfl rfl ?_ | refine zZ rfl rfl rfl rfl rfl ?_ | refine L_st rfl rfl rfl (c' := [_,_,_,_,_,_,_,_,_,_]) rfl rfl rfl rfl ?_)
 refine ⟨[],_,_,trivial,⟨_,h2,rfl,ho.plainI,rfl⟩,yK.out⟩
end
end Sl
end Go.Proofs.YtpkealohodeifaaGreat
namespace Go.Proofs.YtpkealohodeifaaGreat
open Go Go.RowKit
namespace Sl
set_option maxHeartbeats 4000000
set_option maxRecDepth 4000
set_option synthInstance.maxHeartbeats 400000
set_option synthInstance.maxSize 100000
attribute [local irreducible] Hold HoldL HoldW
def insD (d : List Int) (t : Int) : List Int := d.filter (fun x => decide (x < t)) ++ t :: d.filter (fun x => decide (t < x))
theorem insD_rises {d : List Int} (hd : Rises d) (t : Int) : Rises (insD d t) := by
 unfold Rises insD at *
 rw [List.pairwise_append,List.pairwise_cons]
 refine ⟨hd.filter _,⟨?_,hd.filter _⟩,?_⟩
 ·intro x hx; simpa using (List.mem_filter.1 hx).2
 ·intro x hx y hy
  have h1 : x < t := by simpa using (List.mem_filter.1 hx).2
  rcases List.mem_cons.1 hy with rfl | hy
  ·exact h1
  ·have h2 : t < y := by simpa using (List.mem_filter.1 hy).2
   omega
theorem insD_len (d : List Int) (t : Int) : (insD d t).length ≤ d.length + 1 := by
 unfold insD
 have : ∀ l : List Int,(l.filter (fun x => decide (x < t))).length + (l.filter (fun x => decide (t < x))).length ≤ l.length := by
  intro l
  induction l with
  | nil => simp
  | cons x l ih =>
   simp only [List.filter_cons,List.length_cons]
   by_cases h1 : x < t
   ·have h2 : ¬ t < x := by omega
    simp only [h1,h2,decide_true,decide_false,if_true,if_false,List.length_cons]
    simp only [Bool.false_eq_true,if_false]; omega
   ·by_cases h2 : t < x
    ·simp only [h1,h2,decide_true,decide_false,if_true,if_false,List.length_cons]
     simp only [Bool.false_eq_true,if_false]; omega
    ·simp only [h1,h2,decide_false]
     simp only [Bool.false_eq_true,if_false]; omega
 have := this d
 simp only [List.length_append,List.length_cons]
 omega
theorem mem_insD {d : List Int} {t x : Int} : x ∈ insD d t ↔ x = t ∨ x ∈ d := by
 unfold insD
 simp only [List.mem_append,List.mem_cons,List.mem_filter,decide_eq_true_eq]
 constructor
 ·rintro (⟨h,_⟩ | rfl | ⟨h,_⟩)
  ·exact .inr h
  ·exact .inl rfl
  ·exact .inr h
 ·rintro (rfl | h)
  ·exact .inr (.inl rfl)
  ·rcases Int.lt_trichotomy x t with h1 | h1 | h1
   ·exact .inl ⟨h,h1⟩
   ·exact .inr (.inl h1)
   ·exact .inr (.inr ⟨h,h1⟩)
def endD (d : List Int) (ts : List Int) : List Int := ts.foldl insD d
theorem endD_rises : ∀ (ts : List Int) {d : List Int},Rises d → Rises (endD d ts)
 | [],_,h => h
 | t :: ts,_,h => endD_rises ts (insD_rises h t)
theorem endD_len : ∀ (ts d : List Int),(endD d ts).length ≤ d.length + ts.length
 | [],d => by simp [endD]
 | t :: ts,d => by
  have h1 := endD_len ts (insD d t)
  have h2 := insD_len d t
  show (endD (insD d t) ts).length ≤ _
  simp only [List.length_cons]; omega
theorem mem_endD {x : Int} : ∀ {ts d : List Int},x ∈ endD d ts ↔ x ∈ ts ∨ x ∈ d
 | [],d => by simp [endD]
 | t :: ts,d => by
  show x ∈ endD (insD d t) ts ↔ _
  rw [mem_endD,mem_insD,List.mem_cons]
  constructor
  ·rintro (h | h | h)
   ·exact .inl (.inr h)
   ·exact .inl (.inl h)
   ·exact .inr h
  ·rintro ((h | h) | h)
   ·exact .inr (.inl h)
   ·exact .inl h
   ·exact .inr (.inr h)
theorem withoutL_cons (l : List Lk) (t : Int) (ts : List Int) : withoutL (withoutL l ts) [t] = withoutL l (ts ++ [t]) := by
 unfold withoutL
 rw [List.filter_filter]
 congr 1
 funext k
 simp only [List.mem_append,List.mem_singleton,← Bool.not_or,Bool.decide_or]
 rw [Bool.or_comm]
theorem withoutL_len (l : List Lk) (ts : List Int) : (withoutL l ts).length ≤ l.length := List.length_filter_le _ _
theorem ins_found {d : List Int} {t : Int} {i : Nat} (hd : Rises d) (hb : BsAt (fun x => decide (x < t)) d i) (hf : foundAt (fun x => x - t) d i = true) : d = insD d t := by
 obtain ⟨h,h1,h2,h3,_⟩ := bs_found (key := id) (t := t) hd (by simpa [show ∀ x : Int,(x - t < 0) = (x < t) from fun x => propext ⟨by omega,by omega⟩] using hb) hf
 unfold insD
 have e : d = d.take i ++ d[i] :: d.drop (i + 1) := by rw [← List.drop_eq_getElem_cons h,List.take_append_drop]
 conv => lhs; rw [e]
 rw [h2,h3]
 simp only [id] at h1 ⊢
 rw [h1]
theorem ins_missed {d : List Int} {t : Int} {i : Nat} (hd : Rises d) (hb : BsAt (fun x => decide (x < t)) d i) (hf : foundAt (fun x => x - t) d i = false) : d.take i ++ t :: d.drop i = insD d t := by
 obtain ⟨h2,h3,_⟩ := bs_missed (key := id) (t := t) hd (by simpa [show ∀ x : Int,(x - t < 0) = (x < t) from fun x => propext ⟨by omega,by omega⟩] using hb) hf
 unfold insD
 rw [h2,h3]
 rfl
section
variable (w0 : World) (X : Hp) (b : Nat) (lo hi ep vb vk vp vo vx : Value)
theorem end_spec (vl vd vt : Value) (ls : List Lk) (d ts : List Int) (h1 h2 : Hp) (ht : RdL w0 X vt ts) (hl : OwL w0 0 ls vl h1) (hd : OwL w0 0 d vd h2) (hr : Rises d) (n1 : ls.length ≤ 1000000) (n2 : d.length ≤ 1000000) (n3 : ts.length ≤ 1000000) :
  Spec Tryz.prog w0 191 [.pointer (some ⟨b,0,none⟩),vt] (X + (stC b [lo,hi,ep,vb,vk,vl,vp,vd,vo,vx] + h1 + h2))
   (fun r h' => ∃ E vl' vd' h1' h2',r = .tuple #[] ∧ OwL w0 0 (withoutL ls ts) vl' h1' ∧ OwL w0 0 (endD d ts) vd' h2' ∧ X + E + (stC b [lo,hi,ep,vb,vk,vl',vp,vd',vo,vx] + h1' + h2') = h') := by
 obtain ⟨a,c,rfl⟩ := ht.shape
 obtain ⟨a1,c1,rfl⟩ := hl.shape
 obtain ⟨a2,c2,rfl⟩ := hd.shape
 refine zN Tryz.func191 rfl Tryz.ntmps191 Tryz.results191 rfl fun fr => ?_
 repeat (first | refine zF ?_ | refine zR ?_ | refine zB ?_ | refine zE ?_ | refine zK rfl rfl rfl ?_ | refine L_len rfl rfl rfl ?_)
 refine hold_count ts.length (fun k g L => ∃ (E R : Hp) (al : Option Addr) (cl : Nat) (ad : Option Addr) (cd : Nat) (h1' h2' : Hp),g = [(0,.pointer (some ⟨b,0,none⟩)),(8,.slice a ts.length c),(9,.int .i64 ts.length),(10,.int .i64 k)] ∧
   OwL w0 0 (withoutL ls (ts.take k)) (.slice al (withoutL ls (ts.take k)).length cl) h1' ∧ OwL w0 0 (endD d (ts.take k)) (.slice ad (endD d (ts.take k)).length cd) h2' ∧ L = X + E + (stC b [lo,hi,ep,vb,vk,.slice al (withoutL ls (ts.take k)).length cl,vp,.slice ad (endD d (ts.take k)).length cd,vo,vx] + h1' + h2') + fr + R) _
  ⟨0,0,a1,c1,a2,c2,h1,h2,rfl,by rw [List.take_zero,withoutL_nil]; exact hl,hd,by rw [List.take_zero,withoutL_nil]; simp only [yB]; ac_rfl⟩ (by repeat (first | exact zT _ | refine zO rfl ?_)) ?_
 rintro k g L hk ⟨E,R,al,cl,ad,cd,h1',h2',rfl,hl',hd',rfl⟩
 repeat (first | refine zF ?_ | refine zB ?_)
 refine yG rfl rfl (pv_lss rfl rfl) (fun n4 => ?_) (fun n4 => ?_)
 ·have hx : k < ts.length := by omega
  have hdr := endD_rises (ts.take k) hr
  have hdl := endD_len (ts.take k) d
  rw [List.length_take] at hdl
  have hll := withoutL_len ls (ts.take k)
  have el : withoutL (withoutL ls (ts.take k)) [ts[k]] = withoutL ls (ts.take (k + 1)) := by rw [withoutL_cons,List.take_succ_eq_append_getElem hx]
  have ed : insD (endD d (ts.take k)) ts[k] = endD d (ts.take (k + 1)) := by unfold endD; rw [List.take_succ_eq_append_getElem hx,List.foldl_append]; rfl
  generalize withoutL ls (ts.take k) = lk at hl' hll el
  generalize endD d (ts.take k) = dk at hd' hdr hdl ed
  obtain ⟨b2,o2,rfl,e,rfl,hat⟩ := ht.at hx
  repeat (first | refine zF ?_ | refine zR ?_ | refine zB ?_ | refine zE ?_ | refine zK rfl rfl rfl ?_ | refine zZ rfl rfl rfl rfl rfl ?_ | refine L_ld rfl rfl rfl rfl rfl ?_ | refine zP ?_ | refine zJ rfl ?_ | refine L_idx rfl rfl (by omega) rfl rfl ?_ | refine L_at rfl (by assumption) rfl rfl rfl rfl ?_)
  refine zY rfl rfl (zQ rfl rfl rfl) (free20_spec w0 h1' _ lk ts[k] (rdL_locks.1 hl'.rdh) (by omega)) ?_
  rintro vl2 _ ⟨h3,ho3,rfl⟩
  rw [el] at ho3
  replace ho3 := owL_locks (w0 := w0) (X := 0).2 ho3
  obtain ⟨a3,c3,rfl⟩ := ho3.shape
  repeat (first | refine zF ?_ | refine zB ?_ | refine zE ?_ | refine zK rfl rfl rfl ?_ | refine zZ rfl rfl rfl rfl rfl ?_ | refine L_ld rfl rfl rfl rfl rfl ?_ | refine L_st rfl rfl rfl (c' := [_,_,_,_,_,_,_,_,_,_]) rfl rfl rfl rfl ?_)
  refine zY rfl rfl (zQ rfl rfl rfl) (binarySearchI_spec w0 h2' _ dk ts[k] hd'.rdh (by omega)) ?_
  rintro _ _ ⟨i,rfl,hb,rfl⟩
  repeat (first | refine zF ?_ | refine zB ?_ | refine zE ?_ | refine zK rfl rfl rfl ?_)
  cases hf : foundAt (fun x => x - ts[k]) dk i
  ·have e2 := ins_missed hdr hb hf
   repeat (first | refine zB ?_ | refine zK rfl rfl rfl ?_ | refine zZ rfl rfl rfl rfl rfl ?_ | refine L_ld rfl rfl rfl rfl rfl ?_ | refine zJ rfl ?_ | refine L_bs (vs := [_]) (cells := [_]) rfl rfl rfl rfl rfl rfl (fun _ => ?_))
   rename_i bi
   obtain ⟨es,q1,q2⟩ := id hd'
   have hes := rdI_enc.1 q2
   subst hes
   have hbi := hb.1
   refine zY rfl rfl (zQ rfl rfl rfl) (insertAtInt_spec w0 (enc1 dk) _ h2' bi i [.int .i64 ts[k]] q1 (by rw [enc1_length]; exact hbi) q2.ones rfl (by simp [Value.oneCell']) (by rw [enc1_length]; omega)) ?_
   rintro vd2 h4 hrow
   rw [show (enc1 dk).take i ++ [.int .i64 ts[k]] :: (enc1 dk).drop i = enc1 (endD d (ts.take (k + 1))) by rw [← ed,← e2]; simp [enc1]] at hrow
   have ho4 := (owL_ints (w0 := w0) (X := 0)).2 hrow
   obtain ⟨a4,c4,rfl⟩ := ho4.shape
   repeat (first | refine zB ?_ | refine zE ?_ | refine zK rfl rfl rfl ?_ | refine zZ rfl rfl rfl rfl rfl ?_ | refine L_add rfl rfl (by omega) (by omega) rfl rfl ?_ | refine L_st rfl rfl rfl (c' := [_,_,_,_,_,_,_,_,_,_]) rfl rfl rfl rfl ?_)
   exact ⟨hx,_,(by repeat (first | exact zT _ | refine zO rfl ?_)),E + h1',_,a3,c3,a4,c4,h3,h4,rfl,ho3,ho4,yK.out⟩
  ·have e2 := ins_found hdr hb hf
   repeat (first | refine zB ?_ | refine zE ?_ | refine zK rfl rfl rfl ?_ | refine zP ?_ | refine zI rfl ?_ | refine L_add rfl rfl (by omega) (by omega) rfl rfl ?_)
   rw [e2,ed] at hd'
   have e3 : dk.length = (endD d (ts.take (k + 1))).length := by rw [← ed,← e2]
   rw [e3]
   exact ⟨hx,_,(by repeat (first | exact zT _ | refine zO rfl ?_)),E + h1',_,a3,c3,ad,cd,h3,h2',rfl,ho3,hd',yK.out⟩
 ·rw [List.take_of_length_le (by omega)] at hl' hd' ⊢
  repeat (first | refine zF ?_ | refine yD ?_ | refine zE ?_ | refine zI rfl ?_)
  exact ⟨[],_,_,trivial,⟨E,_,_,h1',h2',rfl,hl',hd',rfl⟩,yK.out⟩
def lockS (ls : List Lk) (d : List Int) (k : Lk) (fixed : List Int) : List Lk × List Int × Int :=
 if (takeF ls k fixed).2.2 = 11 then (ls,d,11) else if (takeF ls k fixed).2.2 = 8 then (withoutL ls [k.txn],endD d [k.txn],24)
 else (withoutL (takeF ls k fixed).1 (takeF ls k fixed).2.1,endD d (takeF ls k fixed).2.1,0)
theorem TakeP.lens {l a : List Lk} {k : Lk} {fixed w : List Int} {e : Int} (h : TakeP l k fixed a w e) : a.length ≤ l.length + 1 ∧ w.length ≤ l.length ∧ (e = 0 ∨ e = 11 ∨ e = 8) := by
 unfold TakeP at h
 split at h
 ·obtain ⟨rfl,rfl,rfl⟩ := h; simp
 ·split at h
  ·obtain ⟨rfl,rfl,rfl⟩ := h; simp
  ·split at h
   ·obtain ⟨rfl,rfl,rfl⟩ := h; simp
   ·obtain ⟨h1,rfl,rfl⟩ := h
    have := h1.length
    have := leftL_le l k
    exact ⟨by omega,woundL_le l k,.inl rfl⟩
theorem take22_spec (vl vd : Value) (ls : List Lk) (d : List Int) (ps : List Prp) (k : Lk) (h1 h2 : Hp) (hp : RdL w0 X vp ps) (hl : OwL w0 0 ls vl h1) (hd : OwL w0 0 d vd h2) (hr : Rises d) (n1 : ls.length < 1000000) (n2 : d.length ≤ 1000000) (n3 : ps.length ≤ 1000000) :
  Spec Tryz.prog w0 193 [.pointer (some ⟨b,0,none⟩),.agg #[.int .i64 k.block,.int .i64 k.txn,.int .i64 k.age,.bool k.write]] (X + (stC b [lo,hi,ep,vb,vk,vl,vp,vd,vo,vx] + h1 + h2))
   (fun r h' => ∃ E vl' vd' h1' h2',r = .int .i64 (lockS ls d k (ps.map Prp.txn)).2.2 ∧ OwL w0 0 (lockS ls d k (ps.map Prp.txn)).1 vl' h1' ∧ OwL w0 0 (lockS ls d k (ps.map Prp.txn)).2.1 vd' h2' ∧ X + E + (stC b [lo,hi,ep,vb,vk,vl',vp,vd',vo,vx] + h1' + h2') = h') := by
 have hfix := fixed_spec w0 X b lo hi ep vb vk vl vp vd vo vx ps hp (by omega)
 obtain ⟨a1,c1,rfl⟩ := hl.shape
 obtain ⟨a2,c2,rfl⟩ := hd.shape
 refine zN Tryz.func193 rfl Tryz.ntmps193 Tryz.results193 rfl fun fr => ?_
 repeat (first | refine zF ?_ | refine zB ?_ | refine zE ?_ | refine zK rfl rfl rfl ?_ | refine L_box rfl (c := [_,_,_,_]) rfl rfl rfl (fun _ => ?_))
 rename_i b3
 refine yC [7,8] [0,1,2,3,4,5,6,7,8,9,10,11,12,13,14,15] (by kernel_rfl) rfl (by kernel_rfl) (by kernel_rfl) ?_
 repeat (first | refine yI rfl rfl rfl rfl rfl ?_ | refine yE rfl rfl rfl rfl (yA rfl rfl rfl) ?_ | refine W_load rfl rfl rfl rfl (yF rfl) (zG rfl (zS rfl)) ?_ | refine W_load rfl rfl rfl rfl (yF rfl) (zL (vs := [_,_,_,_]) rfl rfl rfl) ?_)
 refine W_call rfl rfl rfl rfl (zQ rfl rfl rfl) hfix (Kept.all _) ?_
 rintro vf _ ⟨h3,ho3,rfl⟩
 refine ⟨(by repeat (first | exact trivial | exact zG rfl (zS rfl) | exact zL rfl rfl rfl | exact zX rfl (by assumption) rfl | exact zH rfl (by assumption) rfl | exact zH rfl (by assumption) (by assumption) | refine ⟨?_,?_⟩)),?_⟩
 have htk := take20_spec w0 (h1 + h3) (.slice a1 ls.length c1) vf ls k (ps.map Prp.txn) (rdL_locks.1 (hl.rd (X := 0) (L := h1 + h3) (R := h3) (hf := ⟨by simp only [hzero_add]⟩))) (rdL_ints.1 (ho3.rd (X := 0) (L := h1 + h3) (R := h1) (hf := ⟨by simp only [hzero_add]; ac_rfl⟩))) (by omega) (by rw [List.length_map]; omega)
 rw [show aggL k = .agg #[.int .i64 k.block,.int .i64 k.txn,.int .i64 k.age,.bool k.write] from rfl] at htk
 skip
 refine W_call rfl rfl rfl rfl (zQ rfl rfl rfl) htk (Kept.all _) ?_
 rintro _ _ ⟨va,vw,e,al,w,ha,hw,rfl,hla,hwr,htp,rfl⟩
 refine ⟨(by repeat (first | exact trivial | exact zG rfl (zS rfl) | exact zL rfl rfl rfl | exact zX rfl (by assumption) rfl | exact zH rfl (by assumption) rfl | exact zH rfl (by assumption) (by assumption) | refine ⟨?_,?_⟩)),?_⟩
 replace hla : OwL w0 0 al va ha := owL_locks.2 hla
 replace hwr : OwL w0 0 w vw hw := owL_ints.2 hwr
 obtain ⟨q1,q2,q3⟩ := htp.lens
 obtain ⟨aa,ca,rfl⟩ := hla.shape
 obtain ⟨aw,cw,rfl⟩ := hwr.shape
 have eq : takeF ls k (ps.map Prp.txn) = (al,w,e) := (takeP_eq htp).symm
 have es : lockS ls d k (ps.map Prp.txn) = if e = 11 then (ls,d,11) else if e = 8 then (withoutL ls [k.txn],endD d [k.txn],24) else (withoutL al w,endD d w,0) := by unfold lockS; rw [eq]
 clear htk htp eq
 repeat (first | refine yJ ?_ | refine yI rfl rfl rfl rfl rfl ?_)
 repeat (first | refine zF ?_ | refine zR ?_ | refine zB ?_ | refine zE ?_ | refine zK rfl rfl rfl ?_)
 refine yG rfl rfl (pv_eql rfl rfl) (fun n4 => ?_) (fun n4 => ?_)
 ·subst n4
  rw [es,if_pos rfl]
  repeat (first | refine zF ?_ | refine zB ?_ | refine zE ?_ | refine zK rfl rfl rfl ?_ | refine zM ?_ | refine zJ rfl ?_)
  exact ⟨[_],X + (h3 + ha + hw) + (stC b [lo,hi,ep,vb,vk,.slice a1 ls.length c1,vp,.slice a2 d.length c2,vo,vx] + h1 + h2),_,⟨rfl,trivial⟩,⟨h3 + ha + hw,_,_,h1,h2,rfl,hl,hd,rfl⟩,yK.out⟩
 ·rw [es,if_neg n4]
  repeat (first | refine zF ?_ | refine zB ?_ | refine zE ?_ | refine zK rfl rfl rfl ?_ | refine zI rfl ?_)
  refine yG rfl rfl (pv_eql rfl rfl) (fun n5 => ?_) (fun n5 => ?_)
  ·subst n5
   rw [if_pos rfl]
   repeat (first | refine zF ?_ | refine zB ?_ | refine zE ?_ | refine zK rfl rfl rfl ?_ | refine zZ rfl rfl rfl rfl rfl ?_ | refine L_ld rfl rfl rfl rfl rfl ?_ | refine zJ rfl ?_ | refine L_bs (vs := [_]) (cells := [_]) rfl rfl rfl rfl rfl rfl (fun _ => ?_))
   rename_i bt
   have hend := end_spec w0 (intsAt bt [k.txn]) b lo hi ep vb vk vp vo vx (.slice a1 ls.length c1) (.slice a2 d.length c2) (.slice (some ⟨bt,0,none⟩) 1 1) ls d [k.txn] h1 h2 (ints_block (b := bt) [k.txn] (by simp)) hl hd hr (by omega) n2 (by simp)
   change Spec _ _ _ _ (pt bt (.cells [.int .i64 k.txn].toArray 3 (0,0)) + _) _ at hend
   refine zY rfl rfl (zQ rfl rfl rfl) hend ?_
   rintro _ _ ⟨E,vl',vd',h1',h2',rfl,hl',hd',rfl⟩
   repeat (first | refine zF ?_ | refine zB ?_ | refine zE ?_ | refine zK rfl rfl rfl ?_ | refine zM ?_)
   exact ⟨[_],X + (h3 + ha + hw + E) + (stC b [lo,hi,ep,vb,vk,vl',vp,vd',vo,vx] + h1' + h2'),_,⟨rfl,trivial⟩,⟨h3 + ha + hw + E,_,_,h1',h2',rfl,hl',hd',rfl⟩,yK.out⟩
  ·rw [if_neg n5]
   repeat (first | refine zF ?_ | refine zB ?_ | refine zE ?_ | refine zK rfl rfl rfl ?_ | refine zZ rfl rfl rfl rfl rfl ?_ | refine zP ?_ | refine zI rfl ?_ | refine L_st rfl rfl rfl (c' := [_,_,_,_,_,_,_,_,_,_]) rfl rfl rfl rfl ?_)
   have hend := end_spec w0 hw b lo hi ep vb vk vp vo vx (.slice aa al.length ca) (.slice a2 d.length c2) (.slice aw w.length cw) al d w ha h2 hwr.rdh hla hd hr (by omega) n2 (by omega)
   refine zY rfl rfl (zQ rfl rfl rfl) hend ?_
   rintro _ _ ⟨E,vl',vd',h1',h2',rfl,hl',hd',rfl⟩
   repeat (first | refine zF ?_ | refine zB ?_ | refine zE ?_ | refine zK rfl rfl rfl ?_ | refine zM ?_)
   exact ⟨[_],X + (h3 + h1 + hw + E) + (stC b [lo,hi,ep,vb,vk,vl',vp,vd',vo,vx] + h1' + h2'),_,⟨rfl,trivial⟩,⟨h3 + h1 + hw + E,_,_,h1',h2',rfl,hl',hd',rfl⟩,yK.out⟩
end
end Sl
end Go.Proofs.YtpkealohodeifaaGreat
