/-
  A call with both posts: they answer alike.
-/
import Derived.Test.YtfdimkpanbgffaaPostR
namespace Go.Proofs.Ytfdimkpanbgffaa
open Go Go.RowKit
namespace Sl
set_option linter.unusedVariables false
set_option linter.unusedSimpArgs false
set_option maxRecDepth 4000
set_option maxHeartbeats 4000000
attribute [local irreducible] Hold HoldL HoldW
theorem both_spec (w0 : World) (bp br : Nat) (its : List Item) (cuts : Cuts) (hp hq : Hp) (o : OpA) (vb : Value) (hpo : postAt bp its cuts hp) (hqo : refAt06 br its cuts hq) (hg : Good its cuts) (hB : ∀ it ∈ its, InB it.data)
    (hvb : RdRow w0 0 1 vb (encB o.data)) (hdl : o.data.length ≤ 1024) (hyb : o.y ≤ 9223372036854775807) :
    Spec Try.prog w0 30 [.pointer (some ⟨bp, 0, none⟩), .pointer (some ⟨br, 0, none⟩), .agg [.int .i64 o.kind, .int .i64 o.x, .int .i64 o.y, vb].toArray] (hp + hq)
      (fun r h' => r = .bool true ∧ ∃ t hp' hq', Step o (its, cuts) t ∧ postAt bp t.1 t.2 hp' ∧ refAt06 br t.1 t.2 hq' ∧ hp' + hq' = h') := by
  obtain ⟨h1, h2, h3, h4, h5⟩ := hg
  have h4' : ∀ it ∈ its, it.data.length ≤ 1048576 := fun it hi => Nat.le_trans (h4 it hi) (by decide)
  obtain ⟨va, vc, rfl⟩ := hvb.shape
  rw [encB_length] at *
  refine spec_of_hold_d Try.func30 rfl Try.ntmps30 Try.results30 rfl fun fr => ?_
  repeat (first | refine hold_seq ?_ | refine hold_region_lit ?_)
  refine L_box rfl (c := [_, _, _, _]) rfl rfl rfl (fun b4 => ?_)
  repeat (first | refine hold_seq ?_ | refine hold_block ?_ | refine hold_region_lit ?_ | refine holdL_nil ?_ | refine L_of rfl rfl rfl ?_ | refine L_field rfl rfl rfl rfl rfl ?_ | refine L_ld rfl rfl rfl rfl rfl ?_)
  refine L_dec rfl rfl (pv_eql rfl rfl) (fun hkd => ?_) (fun hkd => ?_)
  · repeat (first | refine hold_seq ?_ | refine hold_region_lit ?_ | refine holdL_nil ?_ | refine L_of rfl rfl rfl ?_ | refine L_field rfl rfl rfl rfl rfl ?_ | refine L_ld rfl rfl rfl rfl rfl ?_ | refine hold_cond_t rfl ?_)
    refine L_call rfl rfl (cv_fun rfl rfl rfl) (lentBytes_spec w0 0 _ o.data hvb (by omega)) ?_
    rintro _ _ ⟨b5, rfl, rfl⟩
    have hrow : isRow 5 1 (encB (o.data ++ marksB)) (.slice (some ⟨b5, 0, none⟩) (o.data.length + 5) (o.data.length + 5)) (bytesAt b5 (o.data ++ marksB)) := by
      have := bytesAt_row (b := b5) (l := o.data ++ marksB) (by simp [marksB]; omega)
      rwa [show (o.data ++ marksB).length = o.data.length + 5 by simp [marksB]] at this
    have hrd0 : RdRow w0 (hp + bytesAt b5 (o.data ++ marksB)) 1 (.slice (some ⟨b5, 0, none⟩) (o.data.length + 5) (o.data.length + 5)) (encB (o.data ++ marksB)) := hrow.rd (hf := by infer_instance)
    have hrd := hrd0.take (m := o.data.length) (by rw [encB_length]; simp)
    rw [show (encB (o.data ++ marksB)).take o.data.length = encB o.data by simp [encB]] at hrd
    repeat (first | refine hold_seq ?_ | refine holdL_nil ?_ | refine L_of rfl rfl rfl ?_)
    refine hold_draw [11] [0, 1, 2, 3, 4, 5, 6, 7, 8, 9, 10, 11, 12] (by kernel_rfl) rfl (by kernel_rfl) (by kernel_rfl) ?_
    repeat (first | refine W_of rfl rfl rfl rfl rfl ?_ | refine W_pure rfl rfl rfl rfl (pv_fieldAddr rfl rfl rfl) ?_ | refine W_load rfl rfl rfl rfl (lv_load rfl) (loads_scalar rfl (reads_pt rfl)) ?_ | refine W_pure rfl rfl rfl rfl (pv_len rfl) ?_)
    refine W_pure rfl rfl rfl rfl (pv_slice_h rfl rfl (by omega)) ?_
    repeat (refine W_pure rfl rfl rfl rfl (pv_build (cells := [_, _, _]) rfl rfl) ?_)
    refine W_call rfl rfl rfl rfl (cv_fun rfl rfl rfl) (send_fun (A := postAt bp) hpo (send_spec w0 bp its cuts hp (bytesAt b5 (o.data ++ marksB)) o.x o.y _ o.data hpo h1 h2 hrd (by omega))) (Kept.all _) ?_
    rintro _ _ ⟨rfl, hp', hpo', rfl⟩
    refine ⟨(by repeat (first | exact trivial | exact loads_scalar rfl (reads_pt rfl) | exact loads_part rfl rfl rfl | refine ⟨?_, ?_⟩)), ?_⟩
    repeat (first | refine W_nil ?_ | refine W_of rfl rfl rfl rfl rfl ?_)
    repeat (first | refine hold_seq ?_ | refine hold_region_lit ?_ | refine L_of rfl rfl rfl ?_ | refine L_field rfl rfl rfl rfl rfl ?_ | refine L_ld rfl rfl rfl rfl rfl ?_ | refine L_build (cells := [_, _, _]) rfl rfl rfl rfl ?_)
    refine L_call rfl rfl (cv_fun rfl rfl rfl) (send_fun (A := refAt06 br) hqo (refSend_spec w0 br its cuts hq 0 o.x o.y _ o.data hqo h1 h2 (hvb.frame (hf := ⟨(hzero_add _).symm⟩)) (by omega))) ?_
    rintro _ _ ⟨rfl, hq', hqo', rfl⟩
    refine L_no rfl rfl (pv_neq rfl rfl) (by simp) ?_
    repeat (first | refine L_of rfl rfl rfl ?_ | refine L_field rfl rfl rfl rfl rfl ?_ | refine L_ld rfl rfl rfl rfl rfl ?_)
    refine L_call rfl rfl (cv_fun rfl rfl rfl) (keptBytes_spec w0 (bytesAt b5 (o.data ++ marksB)) _ _ (o.data ++ marksB) o.data (hrow.rd (R := 0)) (hvb.frame (hf := ⟨(hzero_add _).symm⟩)) (by simp [marksB]; omega) (by omega) (by rintro _ _ _ ⟨rfl⟩; omega)) ?_
    rintro _ _ ⟨rfl, rfl⟩
    rw [decide_eq_true rfl]
    repeat (first | refine hold_region_lit ?_ | refine holdL_nil ?_ | refine L_of rfl rfl rfl ?_ | refine hold_skip ?_ | refine hold_cond_f rfl ?_)
    refine L_call rfl rfl (cv_fun rfl rfl rfl) (spoilBytes_spec w0 _ (o.data ++ marksB) _ hrow) ?_
    rintro r _ rfl
    repeat (first | refine hold_seq ?_ | refine hold_region_lit ?_ | refine holdL_nil ?_ | refine L_of rfl rfl rfl ?_ | refine hold_ret ?_)
    exact ⟨[_], hp' + hq', _, ⟨rfl, trivial⟩, ⟨rfl, (_, cuts), hp', hq', step_send o its cuts hkd, hpo', hqo', rfl⟩, FrameI.out⟩
  · repeat (first | refine hold_seq ?_ | refine hold_region_lit ?_ | refine holdL_nil ?_ | refine L_of rfl rfl rfl ?_ | refine hold_cond_f rfl ?_)
    refine L_dec rfl rfl (pv_eql rfl rfl) (fun hkd => ?_) (fun hkd => ?_)
    · repeat (first | refine hold_seq ?_ | refine hold_region_lit ?_ | refine holdL_nil ?_ | refine L_of rfl rfl rfl ?_ | refine L_field rfl rfl rfl rfl rfl ?_ | refine L_ld rfl rfl rfl rfl rfl ?_ | refine hold_cond_t rfl ?_)
      refine L_call rfl rfl (cv_fun rfl rfl rfl) (take_spec w0 bp its cuts hp o.x hpo h1) ?_
      intro r h' hpost
      by_cases hin : 0 ≤ o.x ∧ o.x < its.length
      · rw [if_pos hin] at hpost
        obtain ⟨it, v1, k1, hp', hit, rfl, hby, hpo', rfl⟩ := hpost
        obtain ⟨a1, c1, rfl⟩ := hby.shape
        repeat (refine L_of rfl rfl rfl ?_)
        refine L_alloc (c := [_, _, _]) rfl rfl rfl (fun b6 => ?_)
        repeat (first | refine hold_seq ?_ | refine hold_region_lit ?_ | refine holdL_nil ?_ | refine L_of rfl rfl rfl ?_ | refine L_field rfl rfl rfl rfl rfl ?_ | refine L_ld rfl rfl rfl rfl rfl ?_ | refine L_stA rfl (vs := [_, _, _]) rfl rfl rfl rfl (c' := [_, _, _]) rfl rfl ?_)
        refine L_call rfl rfl (cv_fun rfl rfl rfl) (refTake_spec w0 br its cuts hq o.x hqo h1) ?_
        intro r h' hpost
        rw [if_pos hin] at hpost
        obtain ⟨it2, v2, k2, hq', hit2, rfl, hby2, hqo', rfl⟩ := hpost
        obtain rfl : it = it2 := Option.some.inj (hit.symm.trans hit2)
        obtain ⟨a2, c2, rfl⟩ := hby2.shape
        have hil := h4 it (List.mem_of_getElem? hit)
        repeat (refine L_of rfl rfl rfl ?_)
        refine L_alloc (c := [_, _, _]) rfl rfl rfl (fun b7 => ?_)
        repeat (first | refine hold_seq ?_ | refine hold_region_lit ?_ | refine holdL_nil ?_ | refine L_of rfl rfl rfl ?_ | refine L_stA rfl (vs := [_, _, _]) rfl rfl rfl rfl (c' := [_, _, _]) rfl rfl ?_)
        refine L_no rfl rfl (pv_neq rfl rfl) (by simp) ?_
        repeat (first | refine L_of rfl rfl rfl ?_ | refine L_ldA rfl (vs := [_, _, _]) rfl rfl rfl rfl rfl ?_)
        refine L_call rfl rfl (cv_fun rfl rfl rfl) (samePacket_spec w0 (k1 + k2) _ _ _ _ _ _ it.data it.data (hby.rd (R := k2)) (hby2.rd (R := k1)) (by omega) (by omega)) ?_
        rintro _ _ ⟨rfl, rfl⟩
        rw [decide_eq_true ⟨rfl, rfl, rfl⟩]
        repeat (first | refine hold_region_lit ?_ | refine holdL_nil ?_ | refine L_of rfl rfl rfl ?_ | refine L_field rfl rfl rfl rfl rfl ?_ | refine L_ld rfl rfl rfl rfl rfl ?_ | refine hold_skip ?_ | refine hold_cond_f rfl ?_)
        refine L_call rfl rfl (cv_fun rfl rfl rfl) (spoilBytes_spec w0 _ it.data k1 hby) ?_
        rintro r _ rfl
        repeat (first | refine hold_seq ?_ | refine hold_region_lit ?_ | refine holdL_nil ?_ | refine L_of rfl rfl rfl ?_ | refine hold_ret ?_)
        exact ⟨[_], hp' + hq', _, ⟨rfl, trivial⟩, ⟨rfl, (_, cuts), hp', hq', .take _ _ _ _, hpo', hqo', rfl⟩, FrameI.out⟩
      · rw [if_neg hin] at hpost
        obtain ⟨rfl, rfl⟩ := hpost
        repeat (refine L_of rfl rfl rfl ?_)
        refine L_alloc (c := [_, _, _]) rfl rfl rfl (fun b6 => ?_)
        repeat (first | refine hold_seq ?_ | refine hold_region_lit ?_ | refine holdL_nil ?_ | refine L_of rfl rfl rfl ?_ | refine L_field rfl rfl rfl rfl rfl ?_ | refine L_ld rfl rfl rfl rfl rfl ?_ | refine L_stA rfl (vs := [_, _, _]) rfl rfl rfl rfl (c' := [_, _, _]) rfl rfl ?_)
        refine L_call rfl rfl (cv_fun rfl rfl rfl) (refTake_spec w0 br its cuts hq o.x hqo h1) ?_
        intro r h' hpost
        rw [if_neg hin] at hpost
        obtain ⟨rfl, rfl⟩ := hpost
        repeat (refine L_of rfl rfl rfl ?_)
        refine L_alloc (c := [_, _, _]) rfl rfl rfl (fun b7 => ?_)
        repeat (first | refine hold_seq ?_ | refine hold_region_lit ?_ | refine holdL_nil ?_ | refine L_of rfl rfl rfl ?_ | refine L_stA rfl (vs := [_, _, _]) rfl rfl rfl rfl (c' := [_, _, _]) rfl rfl ?_)
        refine L_no rfl rfl (pv_neq rfl rfl) (by simp) ?_
        repeat (first | refine L_of rfl rfl rfl ?_ | refine L_ldA rfl (vs := [_, _, _]) rfl rfl rfl rfl rfl ?_)
        have hnil : RdRow w0 0 1 (.slice none 0 0) (encB []) := ⟨none, 0, rfl, by simp [encB], fun i x hx => by simp [encB] at hx⟩
        refine L_call rfl rfl (cv_fun rfl rfl rfl) (samePacket_spec w0 0 _ _ _ _ _ _ [] [] hnil hnil (by simp) (by simp)) ?_
        rintro _ _ ⟨rfl, rfl⟩
        rw [decide_eq_true ⟨rfl, rfl, rfl⟩]
        repeat (first | refine hold_region_lit ?_ | refine holdL_nil ?_ | refine L_of rfl rfl rfl ?_ | refine L_field rfl rfl rfl rfl rfl ?_ | refine L_ld rfl rfl rfl rfl rfl ?_ | refine hold_skip ?_ | refine hold_cond_f rfl ?_)
        refine L_call rfl rfl (cv_fun rfl rfl rfl) (spoilBytes_spec w0 _ [] 0 (isRow_empty _ _ _)) ?_
        rintro r _ rfl
        repeat (first | refine hold_seq ?_ | refine hold_region_lit ?_ | refine holdL_nil ?_ | refine L_of rfl rfl rfl ?_ | refine hold_ret ?_)
        exact ⟨[_], hp + hq, _, ⟨rfl, trivial⟩, ⟨rfl, (its, cuts), hp, hq, .same _ _, hpo, hqo, rfl⟩, FrameI.out⟩
    · repeat (first | refine hold_seq ?_ | refine hold_region_lit ?_ | refine holdL_nil ?_ | refine L_of rfl rfl rfl ?_ | refine hold_cond_f rfl ?_)
      refine L_dec rfl rfl (pv_eql rfl rfl) (fun hkd => ?_) (fun hkd => ?_)
      · repeat (first | refine hold_seq ?_ | refine hold_region_lit ?_ | refine holdL_nil ?_ | refine L_of rfl rfl rfl ?_ | refine L_field rfl rfl rfl rfl rfl ?_ | refine L_ld rfl rfl rfl rfl rfl ?_ | refine hold_cond_t rfl ?_)
        refine L_call rfl rfl (cv_fun rfl rfl rfl) (refTake_spec w0 br its cuts hq o.x hqo h1) ?_
        intro r h' hpost
        have hkey : ∃ s' d' v' k' hq', r = .tuple #[.agg [.int .i64 s', .int .i64 d', v'].toArray, .int .i64 (loseI its o.x).1] ∧ (∃ a c n, v' = .slice a n c) ∧ refAt06 br (loseI its o.x).2 cuts hq' ∧ h' = k' + hq' := by
          unfold loseI
          by_cases hin : 0 ≤ o.x ∧ o.x < its.length
          · rw [if_pos hin] at hpost ⊢
            obtain ⟨it2, v2, k2, hq', hit2, rfl, hby2, hqo', rfl⟩ := hpost
            obtain ⟨a2, c2, rfl⟩ := hby2.shape
            exact ⟨_, _, _, k2, hq', rfl, ⟨_, _, _, rfl⟩, hqo', rfl⟩
          · rw [if_neg hin] at hpost ⊢
            obtain ⟨rfl, rfl⟩ := hpost
            exact ⟨_, _, _, 0, hq, rfl, ⟨_, _, _, rfl⟩, hqo, (hzero_add _).symm⟩
        obtain ⟨s', d', v', k', hq', rfl, ⟨a2, c2, n2, rfl⟩, hqo', rfl⟩ := hkey
        repeat (refine L_of rfl rfl rfl ?_)
        refine L_alloc (c := [_, _, _]) rfl rfl rfl (fun b6 => ?_)
        repeat (first | refine hold_seq ?_ | refine hold_region_lit ?_ | refine holdL_nil ?_ | refine L_of rfl rfl rfl ?_ | refine L_field rfl rfl rfl rfl rfl ?_ | refine L_ld rfl rfl rfl rfl rfl ?_ | refine L_stA rfl (vs := [_, _, _]) rfl rfl rfl rfl (c' := [_, _, _]) rfl rfl ?_)
        refine L_call rfl rfl (cv_fun rfl rfl rfl) (lose_fun (A := postAt bp) hpo (lose_spec w0 bp its cuts hp o.x hpo h1)) ?_
        rintro _ hp' ⟨rfl, hpo'⟩
        repeat (refine L_of rfl rfl rfl ?_)
        refine L_yes rfl rfl (pv_eql rfl rfl) rfl ?_
        repeat (first | refine holdL_nil ?_ | refine L_of rfl rfl rfl ?_ | refine hold_ret ?_)
        exact ⟨[_], hp' + hq', _, ⟨rfl, trivial⟩, ⟨rfl, (_, cuts), hp', hq', step_lose o its cuts o.x, hpo', hqo', rfl⟩, FrameI.out⟩
      · repeat (first | refine hold_seq ?_ | refine hold_region_lit ?_ | refine holdL_nil ?_ | refine L_of rfl rfl rfl ?_ | refine hold_cond_f rfl ?_)
        refine L_dec rfl rfl (pv_eql rfl rfl) (fun hkd => ?_) (fun hkd => ?_)
        · repeat (first | refine hold_seq ?_ | refine holdL_nil ?_ | refine L_of rfl rfl rfl ?_ | refine hold_cond_t rfl ?_)
          refine hold_draw [3, 7] [0, 1, 2, 4, 5, 6, 3, 7, 8, 9] (by kernel_rfl) rfl (by kernel_rfl) (by kernel_rfl) ?_
          repeat (first | refine W_of rfl rfl rfl rfl rfl ?_ | refine W_pure rfl rfl rfl rfl (pv_fieldAddr rfl rfl rfl) ?_ | refine W_load rfl rfl rfl rfl (lv_load rfl) (loads_scalar rfl (reads_pt rfl)) ?_)
          refine W_call rfl rfl rfl rfl (cv_fun rfl rfl rfl) (double_fun (A := postAt bp) hpo (double_spec w0 bp its cuts hp o.x hpo h1 h4')) (Kept.all _) ?_
          rintro _ hp' ⟨rfl, hpo'⟩
          refine ⟨(by repeat (first | exact trivial | exact loads_scalar rfl (reads_pt rfl) | exact loads_part rfl rfl rfl | refine ⟨?_, ?_⟩)), ?_⟩
          skip
          refine W_call rfl rfl rfl rfl (cv_fun rfl rfl rfl) (double_fun (A := refAt06 br) hqo (refDouble_spec w0 br its cuts hq o.x hqo h1 h4')) (Kept.all _) ?_
          rintro _ hq' ⟨rfl, hqo'⟩
          refine ⟨(by repeat (first | exact trivial | exact loads_scalar rfl (reads_pt rfl) | exact loads_part rfl rfl rfl | refine ⟨?_, ?_⟩)), ?_⟩
          refine W_yes rfl rfl rfl rfl (pv_eql rfl rfl) rfl ?_
          repeat (first | refine W_nil ?_ | refine W_of rfl rfl rfl rfl rfl ?_)
          repeat (refine hold_ret ?_)
          exact ⟨[_], hp' + hq', _, ⟨rfl, trivial⟩, ⟨rfl, (_, cuts), hp', hq', step_double o its cuts o.x, hpo', hqo', rfl⟩, FrameI.out⟩
        · repeat (first | refine hold_seq ?_ | refine hold_region_lit ?_ | refine holdL_nil ?_ | refine L_of rfl rfl rfl ?_ | refine hold_cond_f rfl ?_)
          refine L_dec rfl rfl (pv_eql rfl rfl) (fun hkd => ?_) (fun hkd => ?_)
          · repeat (first | refine hold_seq ?_ | refine holdL_nil ?_ | refine L_of rfl rfl rfl ?_ | refine hold_cond_t rfl ?_)
            refine hold_draw [5, 11] [0, 1, 2, 3, 4, 6, 7, 8, 9, 10, 5, 11, 12, 13] (by kernel_rfl) rfl (by kernel_rfl) (by kernel_rfl) ?_
            repeat (first | refine W_of rfl rfl rfl rfl rfl ?_ | refine W_pure rfl rfl rfl rfl (pv_fieldAddr rfl rfl rfl) ?_ | refine W_load rfl rfl rfl rfl (lv_load rfl) (loads_scalar rfl (reads_pt rfl)) ?_)
            refine W_call rfl rfl rfl rfl (cv_fun rfl rfl rfl) (turn_fun (A := postAt bp) hpo (turn_spec w0 bp its cuts hp o.x o.y hpo h1 h4' hyb)) (Kept.all _) ?_
            rintro _ hp' ⟨rfl, hpo'⟩
            refine ⟨(by repeat (first | exact trivial | exact loads_scalar rfl (reads_pt rfl) | exact loads_part rfl rfl rfl | refine ⟨?_, ?_⟩)), ?_⟩
            skip
            refine W_call rfl rfl rfl rfl (cv_fun rfl rfl rfl) (turn_fun (A := refAt06 br) hqo (refTurn_spec w0 br its cuts hq o.x o.y hqo h1 h4' hB hyb)) (Kept.all _) ?_
            rintro _ hq' ⟨rfl, hqo'⟩
            refine ⟨(by repeat (first | exact trivial | exact loads_scalar rfl (reads_pt rfl) | exact loads_part rfl rfl rfl | refine ⟨?_, ?_⟩)), ?_⟩
            refine W_yes rfl rfl rfl rfl (pv_eql rfl rfl) rfl ?_
            repeat (first | refine W_nil ?_ | refine W_of rfl rfl rfl rfl rfl ?_)
            repeat (refine hold_ret ?_)
            exact ⟨[_], hp' + hq', _, ⟨rfl, trivial⟩, ⟨rfl, (_, cuts), hp', hq', step_turn o its cuts o.x o.y, hpo', hqo', rfl⟩, FrameI.out⟩
          · repeat (first | refine hold_seq ?_ | refine hold_region_lit ?_ | refine holdL_nil ?_ | refine L_of rfl rfl rfl ?_ | refine hold_cond_f rfl ?_)
            refine L_dec rfl rfl (pv_eql rfl rfl) (fun hkd => ?_) (fun hkd => ?_)
            · repeat (first | refine hold_seq ?_ | refine holdL_nil ?_ | refine L_of rfl rfl rfl ?_ | refine hold_cond_t rfl ?_)
              refine hold_draw [5, 11] [0, 1, 2, 3, 4, 6, 7, 8, 9, 10, 5, 11, 12, 13] (by kernel_rfl) rfl (by kernel_rfl) (by kernel_rfl) ?_
              repeat (first | refine W_of rfl rfl rfl rfl rfl ?_ | refine W_pure rfl rfl rfl rfl (pv_fieldAddr rfl rfl rfl) ?_ | refine W_load rfl rfl rfl rfl (lv_load rfl) (loads_scalar rfl (reads_pt rfl)) ?_)
              refine W_call rfl rfl rfl rfl (cv_fun rfl rfl rfl) (cut_fun (A := postAt bp) hpo (cut_spec w0 bp its cuts hp o.x o.y hpo h2)) (Kept.all _) ?_
              rintro _ hp' ⟨rfl, hpo'⟩
              refine ⟨(by repeat (first | exact trivial | exact loads_scalar rfl (reads_pt rfl) | exact loads_part rfl rfl rfl | refine ⟨?_, ?_⟩)), ?_⟩
              skip
              refine W_call rfl rfl rfl rfl (cv_fun rfl rfl rfl) (cut_fun (A := refAt06 br) hqo (refCut_spec w0 br its cuts hq o.x o.y hqo h2)) (Kept.all _) ?_
              rintro _ hq' ⟨rfl, hqo'⟩
              refine ⟨(by repeat (first | exact trivial | exact loads_scalar rfl (reads_pt rfl) | exact loads_part rfl rfl rfl | refine ⟨?_, ?_⟩)), ?_⟩
              refine W_yes rfl rfl rfl rfl (pv_eql rfl rfl) rfl ?_
              repeat (first | refine W_nil ?_ | refine W_of rfl rfl rfl rfl rfl ?_)
              repeat (refine hold_ret ?_)
              exact ⟨[_], hp' + hq', _, ⟨rfl, trivial⟩, ⟨rfl, (its, _), hp', hq', step_cut o its cuts o.x o.y, hpo', hqo', rfl⟩, FrameI.out⟩
            · repeat (first | refine hold_seq ?_ | refine hold_region_lit ?_ | refine holdL_nil ?_ | refine L_of rfl rfl rfl ?_ | refine hold_cond_f rfl ?_)
              refine L_dec rfl rfl (pv_eql rfl rfl) (fun hkd => ?_) (fun hkd => ?_)
              · repeat (first | refine hold_seq ?_ | refine holdL_nil ?_ | refine L_of rfl rfl rfl ?_ | refine hold_cond_t rfl ?_)
                refine hold_draw [5, 11] [0, 1, 2, 3, 4, 6, 7, 8, 9, 10, 5, 11, 12, 13] (by kernel_rfl) rfl (by kernel_rfl) (by kernel_rfl) ?_
                repeat (first | refine W_of rfl rfl rfl rfl rfl ?_ | refine W_pure rfl rfl rfl rfl (pv_fieldAddr rfl rfl rfl) ?_ | refine W_load rfl rfl rfl rfl (lv_load rfl) (loads_scalar rfl (reads_pt rfl)) ?_)
                refine W_call rfl rfl rfl rfl (cv_fun rfl rfl rfl) (join_fun (A := postAt bp) h3 hpo (join_spec w0 bp its cuts hp o.x o.y hpo h2)) (Kept.all _) ?_
                rintro _ hp' ⟨rfl, hpo'⟩
                refine ⟨(by repeat (first | exact trivial | exact loads_scalar rfl (reads_pt rfl) | exact loads_part rfl rfl rfl | refine ⟨?_, ?_⟩)), ?_⟩
                skip
                refine W_call rfl rfl rfl rfl (cv_fun rfl rfl rfl) (join_fun (A := refAt06 br) h3 hqo (refJoin_spec w0 br its cuts hq o.x o.y hqo h2)) (Kept.all _) ?_
                rintro _ hq' ⟨rfl, hqo'⟩
                refine ⟨(by repeat (first | exact trivial | exact loads_scalar rfl (reads_pt rfl) | exact loads_part rfl rfl rfl | refine ⟨?_, ?_⟩)), ?_⟩
                refine W_yes rfl rfl rfl rfl (pv_eql rfl rfl) rfl ?_
                repeat (first | refine W_nil ?_ | refine W_of rfl rfl rfl rfl rfl ?_)
                repeat (refine hold_ret ?_)
                exact ⟨[_], hp' + hq', _, ⟨rfl, trivial⟩, ⟨rfl, (its, _), hp', hq', step_join o its cuts o.x o.y, hpo', hqo', rfl⟩, FrameI.out⟩
              · repeat (first | refine hold_seq ?_ | refine hold_region_lit ?_ | refine holdL_nil ?_ | refine L_of rfl rfl rfl ?_ | refine hold_skip ?_ | refine hold_ret ?_ | refine hold_cond_f rfl ?_)
                skip
                exact ⟨[_], hp + hq, _, ⟨rfl, trivial⟩, ⟨rfl, (its, cuts), hp, hq, .same _ _, hpo, hqo, rfl⟩, FrameI.out⟩
end Sl
end Go.Proofs.Ytfdimkpanbgffaa
