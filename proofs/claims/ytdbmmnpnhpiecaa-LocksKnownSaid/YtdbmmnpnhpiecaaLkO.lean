/-
  The law LocksTake over any locks; elder.
-/
import Derived.Test.YtdbmmnpnhpiecaaLkN
import Derived.Test.YtdbmmnpnhpiecaaLkY
namespace Go.Proofs.Ytdbmmnpnhpiecaa
open Go Go.RowKit
namespace Sl
set_option linter.unusedVariables false
set_option linter.unusedSimpArgs false
set_option maxHeartbeats 4000000
set_option maxRecDepth 4000
attribute [local irreducible] Hold HoldL HoldW
theorem lawElder_spec (w0 : World) (x k : Lk) : Spec Try.prog w0 45 [aggL x, aggL k] 0 (fun r h' => r = .bool (elderL x k) ∧ 0 = h') := by
  refine spec_of_hold_d Try.func45 rfl Try.ntmps45 Try.results45 rfl fun fr => ?_
  unfold aggL
  repeat (first | refine hold_seq ?_ | refine hold_region_lit ?_)
  refine L_box rfl (c := [_, _, _, _]) rfl rfl rfl (fun b1 => ?_)
  refine L_box rfl (c := [_, _, _, _]) rfl rfl rfl (fun b2 => ?_)
  repeat (first | refine hold_seq ?_ | refine hold_region_lit ?_ | refine holdL_nil ?_ | refine L_of rfl rfl rfl ?_ | refine L_field rfl rfl rfl rfl rfl ?_ | refine L_ld rfl rfl rfl rfl rfl ?_)
  refine L_dec rfl rfl (pv_lss rfl rfl) (fun h1 => ?_) (fun h1 => ?_)
  · repeat (first | refine holdL_nil ?_ | refine L_of rfl rfl rfl ?_ | refine L_skip rfl rfl ?_ | refine hold_ret ?_)
    exact ⟨[_], 0, _, ⟨rfl, trivial⟩, ⟨bool_yes (.inl h1), rfl⟩, FrameI.out⟩
  · repeat (first | refine L_of rfl rfl rfl ?_ | refine L_field rfl rfl rfl rfl rfl ?_ | refine L_ld rfl rfl rfl rfl rfl ?_)
    refine L_dec rfl rfl (pv_eql rfl rfl) (fun h2 => ?_) (fun h2 => ?_)
    · repeat (first | refine L_of rfl rfl rfl ?_ | refine L_field rfl rfl rfl rfl rfl ?_ | refine L_ld rfl rfl rfl rfl rfl ?_)
      refine L_dec rfl rfl (pv_lss rfl rfl) (fun h3 => ?_) (fun h3 => ?_)
      · repeat (first | refine holdL_nil ?_ | refine L_of rfl rfl rfl ?_ | refine hold_ret ?_)
        exact ⟨[_], 0, _, ⟨rfl, trivial⟩, ⟨bool_yes (.inr ⟨h2, h3⟩), rfl⟩, FrameI.out⟩
      · repeat (first | refine holdL_nil ?_ | refine L_of rfl rfl rfl ?_ | refine hold_ret ?_)
        exact ⟨[_], 0, _, ⟨rfl, trivial⟩, ⟨bool_no (fun h => h.elim h1 (fun h => h3 h.2)), rfl⟩, FrameI.out⟩
    · repeat (first | refine holdL_nil ?_ | refine L_of rfl rfl rfl ?_ | refine L_skip rfl rfl ?_ | refine hold_ret ?_)
      exact ⟨[_], 0, _, ⟨rfl, trivial⟩, ⟨bool_no (fun h => h.elim h1 (fun h => h2 h.1)), rfl⟩, FrameI.out⟩
theorem locksTake_spec (w0 : World) (v : Value) (l : List Lk) (k : Lk) (u : Value) (fixed : List Int) (hv : RdRow w0 0 4 v (encL l)) (hl : l.length ≤ 17592186044416) (hu : RdRow w0 0 1 u (enc1 fixed)) (hf : fixed.length ≤ 17592186044416) :
    Spec Try.prog w0 25 [v, aggL k, u] 0 (fun r h' => r = .bool true ∧ 0 = h') := by
  have hlent := lentLocks_spec w0 0 v l hv
  have hlentI := lentInts_spec w0 0 u fixed hu hf
  have href := refTake_spec w0 0 v u l k fixed hv hu
  have hkeptL := fun b => keptLocks_spec w0 0 b v l hv
  have hkeptI := fun b hr hcap => keptInts_spec w0 (intsAt b (fixed ++ marks)) (.slice (some ⟨b, 0, none⟩) (fixed.length + 5) (fixed.length + 5)) u (fixed ++ marks) fixed hr (hu.frame (hf := ⟨(hzero_add _).symm⟩)) (by simp [marks]; omega) (by omega) hcap
  obtain ⟨va, vc, rfl⟩ := hv.shape
  obtain ⟨ua, uc, rfl⟩ := hu.shape
  rw [encL_length] at *
  rw [enc1_length] at *
  unfold aggL at href ⊢
  refine spec_of_hold_d Try.func25 rfl Try.ntmps25 Try.results25 rfl fun fr => ?_
  repeat (first | refine hold_seq ?_ | refine hold_region_lit ?_)
  refine L_box rfl (c := [_, _, _, _]) rfl rfl rfl (fun b4 => ?_)
  repeat (first | refine hold_seq ?_ | refine hold_region_lit ?_ | refine holdL_nil ?_ | refine L_of rfl rfl rfl ?_ | refine L_len rfl rfl rfl ?_)
  refine L_dec rfl rfl (pv_gtr rfl rfl) (fun n1 => ?_) (fun n1 => ?_)
  · repeat (first | refine hold_seq ?_ | refine hold_region_lit ?_ | refine holdL_nil ?_ | refine L_of rfl rfl rfl ?_ | refine L_skip rfl rfl ?_ | refine hold_cond_t rfl ?_)
    refine L_call rfl rfl (cv_fun rfl rfl rfl) (works20_spec w0) ?_
    rintro _ _ ⟨rfl, rfl⟩
    repeat (first | refine holdL_nil ?_ | refine L_of rfl rfl rfl ?_ | refine hold_ret ?_)
    exact ⟨[_], 0, _, ⟨rfl, trivial⟩, ⟨rfl, rfl⟩, FrameI.out⟩
  · repeat (first | refine L_of rfl rfl rfl ?_ | refine L_len rfl rfl rfl ?_)
    refine L_dec rfl rfl (pv_gtr rfl rfl) (fun n2 => ?_) (fun n2 => ?_)
    · repeat (first | refine hold_seq ?_ | refine hold_region_lit ?_ | refine holdL_nil ?_ | refine L_of rfl rfl rfl ?_ | refine hold_cond_t rfl ?_)
      refine L_call rfl rfl (cv_fun rfl rfl rfl) (works20_spec w0) ?_
      rintro _ _ ⟨rfl, rfl⟩
      repeat (first | refine holdL_nil ?_ | refine L_of rfl rfl rfl ?_ | refine hold_ret ?_)
      exact ⟨[_], 0, _, ⟨rfl, trivial⟩, ⟨rfl, rfl⟩, FrameI.out⟩
    · repeat (first | refine hold_seq ?_ | refine hold_region_lit ?_ | refine holdL_nil ?_ | refine L_of rfl rfl rfl ?_ | refine hold_skip ?_ | refine hold_cond_f rfl ?_)
      refine L_call rfl rfl (cv_fun rfl rfl rfl) (hlent (by omega)) ?_
      rintro _ _ ⟨b7, rfl, rfl⟩
      repeat (first | refine hold_seq ?_ | refine hold_region_lit ?_ | refine holdL_nil ?_ | refine L_of rfl rfl rfl ?_)
      refine L_call rfl rfl (cv_fun rfl rfl rfl) hlentI ?_
      rintro _ _ ⟨b8, rfl, rfl⟩
      have hln : (l ++ marksL).length = l.length + 5 := by simp [marksL]
      have hrow : locksAt (l ++ marksL) (.slice (some ⟨b7, 0, none⟩) (l.length + 5) (l.length + 5)) (lksAt b7 (l ++ marksL)) := by
        have := lksAt_row (b := b7) (l := l ++ marksL) (by rw [hln]; omega)
        rwa [hln] at this
      have hpt := (hrow.rd (w0 := w0) (R := intsAt b8 (fixed ++ marks)) : RdRow w0 (lksAt b7 (l ++ marksL) + intsAt b8 (fixed ++ marks)) 4 _ _).take (m := l.length) (by rw [encL_length]; omega)
      rw [encL_take, List.take_left] at hpt
      have hln2 : (fixed ++ marks).length = fixed.length + 5 := by simp [marks]
      have hrow2 : isRow 3 1 (enc1 (fixed ++ marks)) (.slice (some ⟨b8, 0, none⟩) (fixed.length + 5) (fixed.length + 5)) (intsAt b8 (fixed ++ marks)) := by
        have := intsAt_row (b := b8) (l := fixed ++ marks) (by rw [hln2]; omega)
        rwa [hln2] at this
      have hrd8 : RdRow w0 (lksAt b7 (l ++ marksL) + intsAt b8 (fixed ++ marks)) 1 (.slice (some ⟨b8, 0, none⟩) (fixed.length + 5) (fixed.length + 5)) (enc1 (fixed ++ marks)) := hrow2.rd (hf := by infer_instance)
      have hpt2 := hrd8.take (m := fixed.length) (by rw [enc1_length]; omega)
      rw [show (enc1 (fixed ++ marks)).take fixed.length = enc1 fixed by simp [enc1]] at hpt2
      have htake := take20_spec w0 _ _ _ l k fixed hpt hpt2 (by omega) (by omega)
      unfold aggL at htake
      repeat (first | refine hold_seq ?_ | refine holdL_nil ?_ | refine L_of rfl rfl rfl ?_)
      refine hold_draw [9] [0, 1, 2, 3, 4, 5, 6, 7, 8, 9, 10, 11, 12, 13, 14, 15, 16] (by kernel_rfl) rfl (by kernel_rfl) (by kernel_rfl) ?_
      repeat (first | refine W_of rfl rfl rfl rfl rfl ?_ | refine W_pure rfl rfl rfl rfl (pv_len rfl) ?_)
      refine W_pure rfl rfl rfl rfl (pv_slice_h (m := l.length) rfl rfl (by omega)) ?_
      repeat (first | refine W_of rfl rfl rfl rfl rfl ?_ | refine W_pure rfl rfl rfl rfl (pv_len rfl) ?_ | refine W_load rfl rfl rfl rfl (lv_load rfl) (loads_part (vs := [_, _, _, _]) rfl rfl rfl) ?_)
      refine W_pure rfl rfl rfl rfl (pv_slice_h (m := fixed.length) rfl rfl (by omega)) ?_
      skip
      refine W_call rfl rfl rfl rfl (cv_fun rfl rfl rfl) htake (.drop (by kernel_rfl) .nil) ?_
      rintro _ _ ⟨v9, v10, e1, a1, w1, ha1, hw1, rfl, hla1, hwa1, ht1, rfl⟩
      have q1 := take_eq ht1 rfl
      have g1 := take_len ht1
      refine ⟨trivial, ?_⟩
      repeat (first | refine W_nil ?_ | refine W_of rfl rfl rfl rfl rfl ?_)
      repeat (refine hold_seq ?_)
      refine hold_draw [9] [0, 1, 2, 3, 4, 5, 6, 7, 8, 9, 10, 11, 12, 13, 14, 15, 16] (by kernel_rfl) rfl (by kernel_rfl) (by kernel_rfl) ?_
      repeat (first | refine W_of rfl rfl rfl rfl rfl ?_ | refine W_pure rfl rfl rfl rfl (pv_len rfl) ?_)
      refine W_pure rfl rfl rfl rfl (pv_slice_h (m := l.length) rfl rfl (by omega)) ?_
      repeat (first | refine W_of rfl rfl rfl rfl rfl ?_ | refine W_pure rfl rfl rfl rfl (pv_len rfl) ?_ | refine W_load rfl rfl rfl rfl (lv_load rfl) (loads_part (vs := [_, _, _, _]) rfl rfl rfl) ?_)
      refine W_pure rfl rfl rfl rfl (pv_slice_h (m := fixed.length) rfl rfl (by omega)) ?_
      skip
      refine W_call rfl rfl rfl rfl (cv_fun rfl rfl rfl) htake (.drop (by kernel_rfl) .nil) ?_
      rintro _ _ ⟨v12, v13, e2, a2, w2, ha2, hw2, rfl, hla2, hwa2, ht2, rfl⟩
      have q2 := take_eq ht2 rfl
      refine ⟨trivial, ?_⟩
      repeat (first | refine W_nil ?_ | refine W_of rfl rfl rfl rfl rfl ?_)
      repeat (first | refine hold_seq ?_ | refine hold_region_lit ?_ | refine L_of rfl rfl rfl ?_ | refine L_ldA rfl (vs := [_, _, _, _]) rfl rfl rfl rfl rfl ?_)
      refine L_call rfl rfl (cv_fun rfl rfl rfl) (href (by omega) (by omega)) ?_
      rintro _ _ ⟨v15, v16, e3, a3, w3, ha3, hw3, rfl, hla3, hwa3, q3, rfl⟩
      have p2 := q1.trans q2.symm
      have p3 := q1.trans q3.symm
      simp only [Prod.mk.injEq] at p2 p3
      obtain ⟨rfl, rfl, rfl⟩ := p2
      obtain ⟨rfl, rfl, rfl⟩ := p3
      clear q1 q2 q3 ht1 ht2
      repeat (first | refine hold_seq ?_ | refine hold_region_lit ?_ | refine holdL_nil ?_ | refine L_of rfl rfl rfl ?_)
      refine L_no rfl rfl (pv_neq rfl rfl) (by simp) ?_
      repeat (refine L_of rfl rfl rfl ?_)
      refine L_no rfl rfl (pv_neq rfl rfl) (by simp) ?_
      have s1 := sameLocks_spec w0 (ha1 + ha3) v9 v15 a1 a1 (hla1.rd (R := ha3)) (hla3.rd (hf := by infer_instance)) (by omega) (by omega)
      have s2 := sameInts_spec w0 (hw1 + hw3) v10 v16 w1 w1 (hwa1.rd (R := hw3)) (hwa3.rd (hf := by infer_instance)) (by omega) (by omega)
      have s3 := sameLocks_spec w0 (ha2 + ha3) v12 v15 a1 a1 (hla2.rd (R := ha3)) (hla3.rd (hf := by infer_instance)) (by omega) (by omega)
      have s4 := sameInts_spec w0 (hw2 + hw3) v13 v16 w1 w1 (hwa2.rd (R := hw3)) (hwa3.rd (hf := by infer_instance)) (by omega) (by omega)
      rw [decide_eq_true rfl] at s1 s2 s3 s4
      have s5 := hkeptI b8 (hrow2.rd (R := 0)) (by rintro _ _ _ ⟨rfl⟩; omega)
      rw [decide_eq_true rfl] at s5
      repeat (refine L_of rfl rfl rfl ?_)
      refine L_call rfl rfl (cv_fun rfl rfl rfl) s1 ?_
      rintro _ _ ⟨rfl, rfl⟩
      repeat (refine L_of rfl rfl rfl ?_)
      refine L_call rfl rfl (cv_fun rfl rfl rfl) s2 ?_
      rintro _ _ ⟨rfl, rfl⟩
      repeat (first | refine hold_seq ?_ | refine hold_region_lit ?_ | refine holdL_nil ?_ | refine L_of rfl rfl rfl ?_ | refine hold_skip ?_ | refine hold_cond_f rfl ?_)
      refine L_call rfl rfl (cv_fun rfl rfl rfl) (spoilLocks_spec w0 v9 _ ha1 hla1 (by omega)) ?_
      rintro _ _ rfl
      repeat (first | refine hold_seq ?_ | refine hold_region_lit ?_ | refine holdL_nil ?_ | refine L_of rfl rfl rfl ?_)
      refine L_call rfl rfl (cv_fun rfl rfl rfl) (spoilI2_spec w0 v10 _ hw1 hwa1 (by omega)) ?_
      rintro _ _ rfl
      repeat (first | refine hold_seq ?_ | refine hold_region_lit ?_ | refine holdL_nil ?_ | refine L_of rfl rfl rfl ?_)
      refine L_call rfl rfl (cv_fun rfl rfl rfl) s3 ?_
      rintro _ _ ⟨rfl, rfl⟩
      repeat (refine L_of rfl rfl rfl ?_)
      refine L_call rfl rfl (cv_fun rfl rfl rfl) s4 ?_
      rintro _ _ ⟨rfl, rfl⟩
      repeat (refine L_of rfl rfl rfl ?_)
      refine L_call rfl rfl (cv_fun rfl rfl rfl) (hkeptL b7 (by omega)) ?_
      rintro _ _ ⟨rfl, rfl⟩
      repeat (refine L_of rfl rfl rfl ?_)
      refine L_call rfl rfl (cv_fun rfl rfl rfl) s5 ?_
      rintro _ _ ⟨rfl, rfl⟩
      repeat (refine L_of rfl rfl rfl ?_)
      refine L_call rfl rfl (cv_fun rfl rfl rfl) (works20_spec w0) ?_
      rintro _ _ ⟨rfl, rfl⟩
      repeat (first | refine holdL_nil ?_ | refine L_of rfl rfl rfl ?_ | refine hold_ret ?_)
      exact ⟨[_], 0, _, ⟨rfl, trivial⟩, ⟨rfl, rfl⟩, FrameI.out⟩
end Sl
end Go.Proofs.Ytdbmmnpnhpiecaa
