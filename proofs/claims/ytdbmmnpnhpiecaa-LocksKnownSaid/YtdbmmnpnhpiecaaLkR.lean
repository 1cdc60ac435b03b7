/-
  The law LocksKnown: the walk.
-/
import Derived.Test.YtdbmmnpnhpiecaaLkP
import Derived.Test.YtdbmmnpnhpiecaaLkQ
namespace Go.Proofs.Ytdbmmnpnhpiecaa
open Go Go.RowKit
namespace Sl
set_option linter.unusedVariables false
set_option linter.unusedSimpArgs false
set_option maxHeartbeats 6000000
set_option maxRecDepth 8000
attribute [local irreducible] Hold HoldL HoldW
theorem pv_and {P : Program} {g : Env} {t ty : TypeId} {x y : Operand} {k : IntKind} {i j : Int} (hx : ev g x = some (.int k i)) (hy : ev g y = some (.int k j)) : PV P g (.binOp .and t x y ty) (.int k (k.wrap (BitVec.ofInt k.bits i &&& BitVec.ofInt k.bits j).toNat)) := by
  intro o a w n ho ha
  unfold execOp
  simp only [ho, ha.ev hx, ha.ev hy, Sem.run_bind, run_guard_int, Result.andThen_ok]
  simp [binOp, Op.intBits]
theorem lwaits_at (w0 : World) (L : Hp) (v : Value) (l : List Lk) (k : Lk) (u : Value) (fixed : List Int) (hv : RdRow w0 L 4 v (encL l)) (hl : l.length ≤ 17592186044416) (hu : RdRow w0 L 1 u (enc1 fixed)) (hf : fixed.length ≤ 17592186044416) :
    Spec Try.prog w0 26 [v, aggL k, u] L (fun r h' => r = .bool true ∧ L = h') :=
  .rebase fun w1 hw => locksWaits_spec w1 v l k u fixed (hv.rebase hw) hl (hu.rebase hw) hf
/-- What '&' of two numbers is; that it is a number suffices here. -/
theorem and_some (P : Program) : ∃ an : Int → Int → Int, ∀ {g : Env} {t ty : TypeId} {x y : Operand} {i j : Int}, ev g x = some (.int .i64 i) → ev g y = some (.int .i64 j) → PV P g (.binOp .and t x y ty) (.int .i64 (an i j)) :=
  ⟨fun i j => IntKind.i64.wrap (BitVec.ofInt IntKind.i64.bits i &&& BitVec.ofInt IntKind.i64.bits j).toNat, fun hx hy => pv_and hx hy⟩
def knownL : List Int := [-9223372036854775808, -1, 0, 1, 2, 3, 4, 5, 8, 9, 9223372036854775807]
theorem locksKnown_spec (w0 : World) : Spec Try.prog w0 6 [] 0 (fun r h' => r = .bool true ∧ 0 = h') := by
  obtain ⟨an, han⟩ := and_some Try.prog
  refine spec_of_hold_d Try.func6 rfl Try.ntmps6 Try.results6 rfl fun fr => ?_
  repeat (first | refine hold_seq ?_ | refine hold_region_lit ?_ | refine holdL_nil ?_ | refine L_of rfl rfl rfl ?_)
  refine L_eff rfl rfl (ev_buildSlice (vs := [_, _, _, _, _, _, _, _, _, _, _]) (cells := [_, _, _, _, _, _, _, _, _, _, _]) rfl rfl rfl rfl) ?_
  rintro _ _ ⟨bn, rfl, hL⟩
  have hL' : _ = pt bn (.cells ((enc1 knownL).flatten ++ []).toArray 3 (0, 0)) + (0 + fr) := hL
  subst hL'
  clear hL
  repeat (first | refine hold_seq ?_ | refine hold_block ?_ | refine hold_region_lit ?_ | refine holdL_nil ?_ | refine L_of rfl rfl rfl ?_)
  refine hold_loop (fun m g L => ∃ (i : Nat) (R : Hp), i ≤ 11 ∧ m = 11 - i ∧ g = [(1, .slice (some ⟨bn, 0, none⟩) 11 11), (2, .int .i64 i)] ∧ L = pt bn (.cells ((enc1 knownL).flatten ++ []).toArray 3 (0, 0)) + fr + R) _ _
    ⟨0, 0, by omega, rfl, rfl, by simp only [hadd_zero, hzero_add]⟩ (by repeat (first | exact sub_nil _ | refine sub_cons rfl ?_)) ?_
  rintro m g L ⟨i, R, hi, rfl, rfl, rfl⟩
  repeat (first | refine hold_seq ?_ | refine hold_region_lit ?_ | refine L_of rfl rfl rfl ?_ | refine L_len rfl rfl rfl ?_)
  refine L_dec rfl rfl (pv_lss rfl rfl) (fun h2 => ?_) (fun h2 => ?_)
  · have hi : i < knownL.length := by show i < 11; omega
    repeat (first | refine hold_seq ?_ | refine hold_block ?_ | refine hold_region_lit ?_ | refine holdL_nil ?_ | refine L_of rfl rfl rfl ?_ | refine hold_skip ?_ | refine hold_cond_t rfl ?_)
    refine hold_loop (fun m g L => ∃ (k : Nat) (R : Hp), k ≤ 11 ∧ m = 11 - k ∧ g = [(1, .slice (some ⟨bn, 0, none⟩) 11 11), (2, .int .i64 i), (3, .int .i64 k)] ∧ L = pt bn (.cells ((enc1 knownL).flatten ++ []).toArray 3 (0, 0)) + fr + R) _ _
      ⟨0, R, by omega, rfl, rfl, rfl⟩ (by repeat (first | exact sub_nil _ | refine sub_cons rfl ?_)) ?_
    clear R
    rintro m g L ⟨k, R, hk, rfl, rfl, rfl⟩
    repeat (first | refine hold_seq ?_ | refine hold_region_lit ?_ | refine L_of rfl rfl rfl ?_ | refine L_len rfl rfl rfl ?_)
    refine L_dec rfl rfl (pv_lss rfl rfl) (fun h3 => ?_) (fun h3 => ?_)
    · have hk : k < knownL.length := by show k < 11; omega
      repeat (first | refine hold_seq ?_ | refine hold_block ?_ | refine hold_region_lit ?_ | refine holdL_nil ?_ | refine L_of rfl rfl rfl ?_ | refine hold_skip ?_ | refine hold_cond_t rfl ?_)
      refine hold_loop (fun m g L => ∃ (q : Nat) (R : Hp), q ≤ 8 ∧ m = 8 - q ∧ g = [(1, .slice (some ⟨bn, 0, none⟩) 11 11), (2, .int .i64 i), (3, .int .i64 k), (4, .int .i64 q)] ∧ L = pt bn (.cells ((enc1 knownL).flatten ++ []).toArray 3 (0, 0)) + fr + R) _ _
        ⟨0, R, by omega, rfl, rfl, rfl⟩ (by repeat (first | exact sub_nil _ | refine sub_cons rfl ?_)) ?_
      clear R
      rintro m g L ⟨q, R, hq, rfl, rfl, rfl⟩
      repeat (first | refine hold_seq ?_ | refine hold_region_lit ?_ | refine L_of rfl rfl rfl ?_)
      refine L_dec rfl rfl (pv_lss rfl rfl) (fun h4 => ?_) (fun h4 => ?_)
      · repeat (first | refine hold_seq ?_ | refine hold_block ?_ | refine holdL_nil ?_ | refine hold_skip ?_ | refine hold_cond_t rfl ?_)
        refine hold_draw [12, 13] [0, 1, 2, 3, 4, 5, 6, 7, 8, 9, 10, 11, 12, 13] (by kernel_rfl) rfl (by kernel_rfl) (by kernel_rfl) ?_
        repeat (refine W_of rfl rfl rfl rfl rfl ?_)
        refine W_pure rfl rfl rfl rfl (pv_indexAddr rfl rfl hi) ?_
        refine W_load rfl rfl rfl rfl (lv_load rfl) (loads_row1 (o := 0) rfl (enc1_len1 _) (enc1_at hi) rfl) ?_
        repeat (refine W_of rfl rfl rfl rfl rfl ?_)
        refine W_pure rfl rfl rfl rfl (pv_indexAddr rfl rfl hk) ?_
        refine W_load rfl rfl rfl rfl (lv_load rfl) (loads_row1 (o := 0) rfl (enc1_len1 _) (enc1_at hk) rfl) ?_
        repeat (refine W_of rfl rfl rfl rfl rfl ?_)
        refine W_pure rfl rfl rfl rfl (han rfl rfl) ?_
        refine W_pure rfl rfl rfl rfl (pv_eql rfl rfl) ?_
        repeat (refine W_pure rfl rfl rfl rfl (pv_build (cells := [_, _, _, _]) rfl rfl) ?_)
        refine W_eff rfl rfl rfl rfl ev_alloc (Kept.all _) ?_
        rintro _ _ ⟨b5, rfl, hL⟩
        have hL' : _ = pt b5 (.cells [.int .i64 0, .int .i64 0, .int .i64 0, .bool false].toArray 24 (0, 0)) + _ := hL
        subst hL'
        clear hL
        refine ⟨⟨loads_row1 (o := 0) rfl (enc1_len1 _) (enc1_at hk) rfl, loads_row1 (o := 0) rfl (enc1_len1 _) (enc1_at hi) rfl, trivial⟩, ?_⟩
        skip
        refine W_eff rfl rfl rfl rfl (ev_storeA (vs := [_, _, _, _]) rfl rfl rfl rfl (c := [_, _, _, _]) (Nat.le_of_ble_eq_true rfl) (c' := [_, _, _, _]) rfl) (.drop (by kernel_rfl) (.drop (by kernel_rfl) .nil)) ?_
        rintro _ _ rfl
        refine ⟨trivial, ?_⟩
        repeat (refine W_nil ?_)
        repeat (refine hold_seq ?_)
        refine hold_draw [12, 13] [0, 1, 2, 3, 4, 5, 6, 7, 8, 9, 10, 11, 12, 13] (by kernel_rfl) rfl (by kernel_rfl) (by kernel_rfl) ?_
        repeat (refine W_of rfl rfl rfl rfl rfl ?_)
        refine W_pure rfl rfl rfl rfl (pv_indexAddr rfl rfl hi) ?_
        refine W_load rfl rfl rfl rfl (lv_load rfl) (loads_row1 (o := 0) rfl (enc1_len1 _) (enc1_at hi) rfl) ?_
        repeat (refine W_of rfl rfl rfl rfl rfl ?_)
        refine W_pure rfl rfl rfl rfl (pv_indexAddr rfl rfl hk) ?_
        refine W_load rfl rfl rfl rfl (lv_load rfl) (loads_row1 (o := 0) rfl (enc1_len1 _) (enc1_at hk) rfl) ?_
        repeat (refine W_of rfl rfl rfl rfl rfl ?_)
        refine W_pure rfl rfl rfl rfl (han rfl rfl) ?_
        refine W_pure rfl rfl rfl rfl (pv_eql rfl rfl) ?_
        repeat (refine W_pure rfl rfl rfl rfl (pv_build (cells := [_, _, _, _]) rfl rfl) ?_)
        refine W_eff rfl rfl rfl rfl ev_alloc (Kept.all _) ?_
        rintro _ _ ⟨b6, rfl, hL⟩
        have hL' : _ = pt b6 (.cells [.int .i64 0, .int .i64 0, .int .i64 0, .bool false].toArray 24 (0, 0)) + _ := hL
        subst hL'
        clear hL
        refine ⟨⟨loads_row1 (o := 0) rfl (enc1_len1 _) (enc1_at hk) rfl, loads_row1 (o := 0) rfl (enc1_len1 _) (enc1_at hi) rfl, trivial⟩, ?_⟩
        skip
        refine W_eff rfl rfl rfl rfl (ev_storeA (vs := [_, _, _, _]) rfl rfl rfl rfl (c := [_, _, _, _]) (Nat.le_of_ble_eq_true rfl) (c' := [_, _, _, _]) rfl) (.drop (by kernel_rfl) (.drop (by kernel_rfl) .nil)) ?_
        rintro _ _ rfl
        refine ⟨trivial, ?_⟩
        repeat (refine W_nil ?_)
        repeat (first | refine hold_seq ?_ | refine hold_region_lit ?_)
        generalize hwr : decide (an (q : Int) 1 = 1) = wr
        refine L_call rfl rfl (cv_fun rfl rfl rfl) (two_spec w0) ?_
        rintro v7 h7 hl7
        repeat (first | refine hold_seq ?_ | refine hold_region_lit ?_ | refine holdL_nil ?_ | refine L_of rfl rfl rfl ?_)
        refine L_pure rfl rfl (han rfl rfl) ?_
        refine L_pure rfl rfl (pv_neq rfl rfl) ?_
        refine holdL_nil ?_
        repeat refine hold_seq ?_
        refine hold_norm (fun g' L' => ∃ vl ll hl R', Sub g' [(1, .slice (some ⟨bn, 0, none⟩) 11 11), (2, .int .i64 i), (3, .int .i64 k), (4, .int .i64 q), (5, .pointer (some ⟨b5, 0, none⟩)), (6, .pointer (some ⟨b6, 0, none⟩)), (7, vl)] ∧ locksAt ll vl hl ∧ ll.length ≤ 3 ∧ L' = (pt bn (.cells ((enc1 knownL).flatten ++ []).toArray 3 (0, 0)) + pt b5 (.cells [.int .i64 4, .int .i64 (knownL.getD i 0), .int .i64 (knownL.getD k 0), .bool wr].toArray 24 (0, 0)) + pt b6 (.cells [.int .i64 (knownL.getD i 0), .int .i64 3, .int .i64 (knownL.getD k 0), .bool wr].toArray 24 (0, 0)) + fr + hl) + R') ?_ ?_
        · refine hold_cond rfl (fun _ => ?_) (fun _ => ?_)
          · repeat (first | refine hold_region_lit ?_ | refine L_of rfl rfl rfl ?_)
            refine L_call rfl rfl (cv_fun rfl rfl rfl) (free20_spec w0 h7 v7 _ 3 (hl7.rd (R := 0)) (by simp)) ?_
            rintro v8 _ ⟨h8, hl8, rfl⟩
            repeat (first | refine holdL_nil ?_ | refine L_of rfl rfl rfl ?_)
            exact ⟨v8, _, h8, _, (by repeat (first | exact sub_nil _ | refine sub_cons rfl ?_)), hl8, Nat.le_trans (List.length_filter_le _ _) (by simp), FrameI.out⟩
          · repeat (refine hold_skip ?_)
            exact ⟨v7, _, h7, _, (by repeat (first | exact sub_nil _ | refine sub_cons rfl ?_)), hl7, by simp, FrameI.out⟩
        · rintro g' _ ⟨vl, ll, hl, R', hsub, hla, hlen, rfl⟩
          refine hold_env hsub ?_
          clear hsub g' hl7 v7 h7 R
          repeat (first | refine hold_seq ?_ | refine hold_region_lit ?_ | refine holdL_nil ?_ | refine L_of rfl rfl rfl ?_)
          refine L_pure rfl rfl (han rfl rfl) ?_
          refine L_pure rfl rfl (pv_neq rfl rfl) ?_
          refine holdL_nil ?_
          repeat refine hold_seq ?_
          refine hold_norm (fun g' L' => ∃ vf lf hf R', Sub g' [(1, .slice (some ⟨bn, 0, none⟩) 11 11), (2, .int .i64 i), (3, .int .i64 k), (4, .int .i64 q), (5, .pointer (some ⟨b5, 0, none⟩)), (6, .pointer (some ⟨b6, 0, none⟩)), (7, vl), (8, vf)] ∧ isRow 3 1 (enc1 lf) vf hf ∧ lf.length ≤ 3 ∧ L' = (pt bn (.cells ((enc1 knownL).flatten ++ []).toArray 3 (0, 0)) + pt b5 (.cells [.int .i64 4, .int .i64 (knownL.getD i 0), .int .i64 (knownL.getD k 0), .bool wr].toArray 24 (0, 0)) + pt b6 (.cells [.int .i64 (knownL.getD i 0), .int .i64 3, .int .i64 (knownL.getD k 0), .bool wr].toArray 24 (0, 0)) + fr + hl + hf) + R') ?_ ?_
          · refine hold_cond rfl (fun _ => ?_) (fun _ => ?_)
            · repeat (refine hold_region_lit ?_)
              refine L_eff rfl rfl (ev_buildSlice (vs := [_, _]) (cells := [_, _]) rfl rfl rfl rfl) ?_
              rintro _ _ ⟨b8, rfl, hL⟩
              have hL' : _ = intsAt b8 [3, 9] + _ := hL
              subst hL'
              clear hL
              repeat (first | refine holdL_nil ?_ | refine L_of rfl rfl rfl ?_)
              exact ⟨_, [3, 9], intsAt b8 [3, 9], _, (by repeat (first | exact sub_nil _ | refine sub_cons rfl ?_)), intsAt_row (by simp), by simp, FrameI.out⟩
            · repeat (refine hold_skip ?_)
              exact ⟨_, [], 0, _, (by repeat (first | exact sub_nil _ | refine sub_cons rfl ?_)), isRow_empty _ _ _, by simp, FrameI.out⟩
          · clear R'
            rintro g' _ ⟨vf, lf, hf, R', hsub, hlf, hlen2, rfl⟩
            refine hold_env hsub ?_
            clear hsub g'
            have hr1 : RdRow w0 (hl + hf) 4 vl (encL ll) := hla.rd (R := hf)
            have hr2 : RdRow w0 (hl + hf) 1 vf (enc1 lf) := hlf.rd (hf := by infer_instance)
            have t1 := ltake_at w0 (hl + hf) vl ll ⟨4, knownL.getD i 0, knownL.getD k 0, wr⟩ vf lf hr1 (by omega) hr2 (by omega)
            have t2 := ltake_at w0 (hl + hf) vl ll ⟨knownL.getD i 0, 3, knownL.getD k 0, wr⟩ vf lf hr1 (by omega) hr2 (by omega)
            have t3 := lwaits_at w0 (hl + hf) vl ll ⟨4, knownL.getD i 0, knownL.getD k 0, wr⟩ vf lf hr1 (by omega) hr2 (by omega)
            have t4 := lwounded_at w0 (hl + hf) vl ll ⟨knownL.getD i 0, 3, knownL.getD k 0, wr⟩ vf lf hr1 (by omega) hr2 (by omega)
            have t5 := ltold_at w0 (hl + hf) vl ll (knownL.getD i 0) (knownL.getD k 0) wr (knownL.getD k 0) (knownL.getD i 0) hr1 (by omega)
            unfold aggL at t1 t2 t3 t4
            rw [← hwr] at t5
            repeat (refine hold_seq ?_)
            refine hold_draw [3, 9, 16, 23, 48] [0, 1, 2, 3, 4, 5, 6, 7, 8, 9, 10, 11, 12, 13, 14, 15, 16, 17, 18, 19, 20, 21, 22, 23, 24, 25, 26, 27, 28, 29, 30, 31, 32, 33, 34, 35, 36, 37, 38, 39, 40, 41, 42, 43, 44, 45, 46, 47, 48, 49, 50] (by kernel_rfl) rfl (by kernel_rfl) (by kernel_rfl) ?_
            repeat (first | refine W_of rfl rfl rfl rfl rfl ?_ | refine W_load rfl rfl rfl rfl (lv_load rfl) (loads_part (vs := [_, _, _, _]) rfl rfl rfl) ?_)
            refine W_call rfl rfl rfl rfl (cv_fun rfl rfl rfl) t1 (.drop (by kernel_rfl) .nil) ?_
            rintro _ _ ⟨rfl, rfl⟩
            refine ⟨trivial, ?_⟩
            repeat (first | refine W_of rfl rfl rfl rfl rfl ?_ | refine W_load rfl rfl rfl rfl (lv_load rfl) (loads_part (vs := [_, _, _, _]) rfl rfl rfl) ?_)
            refine W_call rfl rfl rfl rfl (cv_fun rfl rfl rfl) t2 (.drop (by kernel_rfl) .nil) ?_
            rintro _ _ ⟨rfl, rfl⟩
            refine ⟨trivial, ?_⟩
            repeat (first | refine W_of rfl rfl rfl rfl rfl ?_ | refine W_load rfl rfl rfl rfl (lv_load rfl) (loads_part (vs := [_, _, _, _]) rfl rfl rfl) ?_)
            refine W_call rfl rfl rfl rfl (cv_fun rfl rfl rfl) t3 (.drop (by kernel_rfl) .nil) ?_
            rintro _ _ ⟨rfl, rfl⟩
            refine ⟨trivial, ?_⟩
            repeat (first | refine W_of rfl rfl rfl rfl rfl ?_ | refine W_load rfl rfl rfl rfl (lv_load rfl) (loads_part (vs := [_, _, _, _]) rfl rfl rfl) ?_)
            refine W_call rfl rfl rfl rfl (cv_fun rfl rfl rfl) t4 (.drop (by kernel_rfl) .nil) ?_
            rintro _ _ ⟨rfl, rfl⟩
            refine ⟨trivial, ?_⟩
            repeat (refine W_of rfl rfl rfl rfl rfl ?_)
            refine W_pure rfl rfl rfl rfl (pv_indexAddr rfl rfl hi) ?_
            refine W_load rfl rfl rfl rfl (lv_load rfl) (loads_row1 (o := 0) rfl (enc1_len1 _) (enc1_at hi) rfl) ?_
            repeat (refine W_of rfl rfl rfl rfl rfl ?_)
            refine W_pure rfl rfl rfl rfl (pv_indexAddr rfl rfl hk) ?_
            refine W_load rfl rfl rfl rfl (lv_load rfl) (loads_row1 (o := 0) rfl (enc1_len1 _) (enc1_at hk) rfl) ?_
            repeat (refine W_of rfl rfl rfl rfl rfl ?_)
            refine W_pure rfl rfl rfl rfl (han rfl rfl) ?_
            refine W_pure rfl rfl rfl rfl (pv_eql rfl rfl) ?_
            repeat (refine W_of rfl rfl rfl rfl rfl ?_)
            refine W_pure rfl rfl rfl rfl (pv_indexAddr rfl rfl hk) ?_
            refine W_load rfl rfl rfl rfl (lv_load rfl) (loads_row1 (o := 0) rfl (enc1_len1 _) (enc1_at hk) rfl) ?_
            repeat (refine W_of rfl rfl rfl rfl rfl ?_)
            refine W_pure rfl rfl rfl rfl (pv_indexAddr rfl rfl hi) ?_
            refine W_load rfl rfl rfl rfl (lv_load rfl) (loads_row1 (o := 0) rfl (enc1_len1 _) (enc1_at hi) rfl) ?_
            repeat (refine W_pure rfl rfl rfl rfl (pv_build (cells := [_, _]) rfl rfl) ?_)
            refine W_call rfl rfl rfl rfl (cv_fun rfl rfl rfl) t5 (Kept.all _) ?_
            rintro _ _ ⟨rfl, rfl⟩
            refine ⟨⟨loads_row1 (o := 0) rfl (enc1_len1 _) (enc1_at hi) rfl, loads_row1 (o := 0) rfl (enc1_len1 _) (enc1_at hk) rfl, loads_row1 (o := 0) rfl (enc1_len1 _) (enc1_at hk) rfl, loads_row1 (o := 0) rfl (enc1_len1 _) (enc1_at hi) rfl, trivial⟩, ?_⟩
            repeat (first | refine W_nil ?_ | refine W_of rfl rfl rfl rfl rfl ?_)
            repeat (first | refine hold_region_lit ?_ | refine holdL_nil ?_ | refine L_of rfl rfl rfl ?_ | refine hold_skip ?_ | refine hold_cond_f rfl ?_ | refine L_add rfl rfl (by omega) (by omega) rfl rfl ?_)
            exact ⟨8 - (q + 1), _, by omega, (by repeat (first | exact sub_nil _ | refine sub_cons rfl ?_)), q + 1, _, by omega, rfl, rfl, FrameI.out⟩
      · repeat (first | refine hold_exit ?_ | refine hold_region_lit ?_ | refine holdL_nil ?_ | refine L_of rfl rfl rfl ?_ | refine hold_cond_f rfl ?_ | refine L_add rfl rfl (by omega) (by omega) rfl rfl ?_)
        exact ⟨11 - (k + 1), _, by omega, (by repeat (first | exact sub_nil _ | refine sub_cons rfl ?_)), k + 1, _, by omega, rfl, rfl, rfl⟩
    · repeat (first | refine hold_exit ?_ | refine hold_region_lit ?_ | refine holdL_nil ?_ | refine L_of rfl rfl rfl ?_ | refine hold_cond_f rfl ?_ | refine L_add rfl rfl (by omega) (by omega) rfl rfl ?_)
      exact ⟨11 - (i + 1), _, by omega, (by repeat (first | exact sub_nil _ | refine sub_cons rfl ?_)), i + 1, _, by omega, rfl, rfl, rfl⟩
  · repeat (first | refine hold_seq ?_ | refine hold_exit ?_ | refine hold_region_lit ?_ | refine holdL_nil ?_ | refine hold_cond_f rfl ?_)
    refine L_call rfl rfl (cv_fun rfl rfl rfl) (knownFull20_spec w0) ?_
    rintro _ _ ⟨rfl, rfl⟩
    repeat (refine L_of rfl rfl rfl ?_)
    refine L_call rfl rfl (cv_fun rfl rfl rfl) (works20_spec w0) ?_
    rintro _ _ ⟨rfl, rfl⟩
    repeat (first | refine holdL_nil ?_ | refine L_of rfl rfl rfl ?_ | refine hold_ret ?_)
    exact ⟨[_], 0, _, ⟨rfl, trivial⟩, ⟨rfl, rfl⟩, FrameI.out⟩
end Sl
end Go.Proofs.Ytdbmmnpnhpiecaa
