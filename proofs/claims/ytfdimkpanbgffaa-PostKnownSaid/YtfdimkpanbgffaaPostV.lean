/-
  knownFull: as many packets, and as many cut ways, as may be, and one more.
-/
import Derived.Test.YtfdimkpanbgffaaPostU
namespace Go.Proofs.Ytfdimkpanbgffaa
open Go Go.RowKit
namespace Sl
set_option linter.unusedVariables false
set_option linter.unusedSimpArgs false
set_option maxRecDepth 4000
set_option maxHeartbeats 4000000
attribute [local irreducible] Hold HoldL HoldW
def fullA (k : Nat) : List OpA := (List.range k).map fun (i : Nat) => ⟨0, 1, 2, [IntKind.u8.wrap (i : Int)]⟩
def fullB : List OpA := [⟨3, 3, 0, []⟩, ⟨2, 3, 0, []⟩, ⟨3, 3, 0, []⟩, ⟨3, 256, 0, []⟩, ⟨1, 255, 0, []⟩]
def fullC (k : Nat) : List OpA := (List.range k).map fun (i : Nat) => ⟨5, 200, (i : Int), []⟩
def fullD : List OpA := [⟨5, 200, 3, []⟩, ⟨6, 3, 200, []⟩, ⟨5, 7, 8, []⟩, ⟨5, 7, 9, []⟩]
def rowsB : List (List Value) := fullB.map (opRow · (.slice none 0 0))
def rowsD : List (List Value) := fullD.map (opRow · (.slice none 0 0))
theorem nestB : Nest isOp fullB rowsB [0, 0, 0, 0, 0] := ⟨isOp_nil _ _ _, isOp_nil _ _ _, isOp_nil _ _ _, isOp_nil _ _ _, isOp_nil _ _ _, trivial⟩
theorem nestD : Nest isOp fullD rowsD [0, 0, 0, 0] := ⟨isOp_nil _ _ _, isOp_nil _ _ _, isOp_nil _ _ _, isOp_nil _ _ _, trivial⟩
theorem nestB_len : ∀ x ∈ rowsB, x.length = 4 := by intro x hx; obtain ⟨o, _, rfl⟩ := List.mem_map.1 hx; rfl
theorem nestD_len : ∀ x ∈ rowsD, x.length = 4 := by intro x hx; obtain ⟨o, _, rfl⟩ := List.mem_map.1 hx; rfl
theorem fullA_succ (k : Nat) : fullA (k + 1) = fullA k ++ [⟨0, 1, 2, [IntKind.u8.wrap k]⟩] := by simp [fullA, List.range_succ]
theorem fullC_succ (k : Nat) : fullC (k + 1) = fullC k ++ [⟨5, 200, k, []⟩] := by simp [fullC, List.range_succ]
theorem fullA_length (k : Nat) : (fullA k).length = k := by simp [fullA]
theorem fullC_length (k : Nat) : (fullC k).length = k := by simp [fullC]
theorem full_fine : ∀ o ∈ fullA 258 ++ fullB ++ fullC 66 ++ fullD, InB o.data ∧ o.data.length ≤ 140737488355328 ∧ o.y ≤ 9223372036854775807 := by
  intro o ho
  simp only [List.mem_append] at ho
  rcases ho with ((ho | ho) | ho) | ho
  · obtain ⟨i, hi, rfl⟩ := List.mem_map.1 ho
    exact ⟨by intro n hn; simp only [List.mem_singleton] at hn; subst hn; exact u8_wrap_in _, by simp, by simp⟩
  · simp only [fullB, List.mem_cons, List.not_mem_nil, or_false] at ho
    rcases ho with rfl | rfl | rfl | rfl | rfl <;> exact ⟨InB_nil, by simp, by decide⟩
  · obtain ⟨i, hi, rfl⟩ := List.mem_map.1 ho
    have := List.mem_range.1 hi
    exact ⟨InB_nil, by simp, by show (i : Int) ≤ _; omega⟩
  · simp only [fullD, List.mem_cons, List.not_mem_nil, or_false] at ho
    rcases ho with rfl | rfl | rfl | rfl <;> exact ⟨InB_nil, by simp, by decide⟩
theorem knownFull_spec (w0 : World) : Spec Try.prog w0 35 [] 0 (fun r h' => r = .bool true ∧ 0 = h') := by
  refine spec_of_hold_d Try.func35 rfl Try.ntmps35 Try.results35 rfl fun fr => ?_
  repeat (first | refine hold_seq ?_ | refine hold_block ?_ | refine hold_region_lit ?_ | refine holdL_nil ?_ | refine L_of rfl rfl rfl ?_)
  refine hold_loop (fun m g L => ∃ (k : Nat) (v : Value) (h R : Hp), k ≤ 258 ∧ m = 258 - k ∧ g = [(1, v), (2, .int .i64 k)] ∧ opsAt (fullA k) v h ∧ L = h + fr + R) _ _
    ⟨0, .slice none 0 0, 0, 0, by omega, rfl, rfl, ⟨[], [], 0, isRow_empty _ _ _, trivial, by simp only [hsum, hadd_zero]⟩, by simp only [hadd_zero]⟩ (by repeat (first | exact sub_nil _ | refine sub_cons rfl ?_)) ?_
  rintro m g L ⟨k, v, h, R, hk, rfl, rfl, ⟨es, hs, h0, hr, hn, rfl⟩, rfl⟩
  have hlen := hn.length.1
  rw [fullA_length] at hlen
  repeat (first | refine hold_seq ?_ | refine hold_region_lit ?_ | refine L_of rfl rfl rfl ?_)
  refine L_dec rfl rfl (pv_lss rfl rfl) (fun h2 => ?_) (fun h2 => ?_)
  · repeat (first | refine hold_seq ?_ | refine hold_block ?_ | refine hold_region_lit ?_ | refine holdL_nil ?_ | refine L_of rfl rfl rfl ?_ | refine hold_skip ?_ | refine hold_cond_t rfl ?_)
    refine L_pure rfl rfl (pv_conv_int rfl) ?_
    refine L_eff rfl rfl (ev_buildSlice (vs := [_]) (cells := [_]) rfl rfl rfl rfl) ?_
    rintro _ _ ⟨b1, rfl, rfl⟩
    repeat (refine L_build (cells := [_, _, _, _]) rfl rfl rfl rfl ?_)
    refine L_eff rfl rfl (ev_buildSlice (vs := [_]) (cells := [_, _, _, _]) rfl rfl rfl rfl) ?_
    rintro _ _ ⟨b2, rfl, rfl⟩
    have hnn : Nest isOp [⟨0, 1, 2, [IntKind.u8.wrap k]⟩] [[.int .i64 0, .int .i64 1, .int .i64 2, .slice (some ⟨b1, 0, none⟩) 1 1]] [bytesAt b1 [IntKind.u8.wrap k]] := ⟨isOp_bytes 0 1 2 [IntKind.u8.wrap k] b1 1 rfl (by simp), trivial⟩
    refine L_eff rfl rfl (ev_append (xs := es) (h := h0) (ns := [[.int .i64 0, .int .i64 1, .int .i64 2, .slice (some ⟨b1, 0, none⟩) 1 1]]) rfl rfl hr (rd_one rfl) (hnn.all op_one) rfl rfl rfl (by simp; omega)) ?_
    rintro v' _ ⟨h0', hr', rfl⟩
    repeat (first | refine hold_region_lit ?_ | refine holdL_nil ?_ | refine L_of rfl rfl rfl ?_ | refine L_add rfl rfl (by omega) (by omega) rfl rfl ?_)
    have hn' := hn.append hnn
    rw [← fullA_succ] at hn'
    exact ⟨258 - (k + 1), _, by omega, (by repeat (first | exact sub_nil _ | refine sub_cons rfl ?_)), k + 1, v', h0' + hsum (hs ++ [bytesAt b1 [IntKind.u8.wrap k]]), _, by omega, rfl, rfl, nestAt_intro hr' hn', by rw [hsum_snoc, show bytesAt b1 [IntKind.u8.wrap k] = pt b1 (.cells [.int .u8 (IntKind.u8.wrap k)].toArray 5 (0, 0)) from rfl]; exact FrameI.out⟩
  · obtain rfl : k = 258 := by omega
    repeat (first | refine hold_seq ?_ | refine hold_exit ?_ | refine hold_region_lit ?_ | refine holdL_nil ?_ | refine L_of rfl rfl rfl ?_ | refine hold_cond_f rfl ?_ | refine L_build (cells := [_, _, _, _]) rfl rfl rfl rfl ?_)
    refine L_eff rfl rfl (ev_buildSlice (vs := [_, _, _, _, _]) (cells := [_, _, _, _, _, _, _, _, _, _, _, _, _, _, _, _, _, _, _, _]) rfl rfl rfl rfl) ?_
    rintro _ _ ⟨b3, rfl, hL⟩
    have hL' : _ = pt b3 (.cells (rowsB.flatten ++ []).toArray 59 (0, 0)) + (h0 + hsum hs + fr + R) := hL
    subst hL'
    refine L_eff rfl rfl (ev_append (xs := es) (h := h0) (ns := rowsB) rfl rfl hr (rd_block (c := 5) nestB_len) (nestB.all op_one) rfl rfl rfl (by simp [rowsB, fullB]; omega)) ?_
    rintro v' _ ⟨h0', hr', rfl⟩
    have hn' := hn.append nestB
    have el : (es ++ rowsB).length = 263 := by simp [rowsB, fullB, hlen]
    repeat (first | refine hold_seq ?_ | refine hold_block ?_ | refine hold_region_lit ?_ | refine holdL_nil ?_ | refine L_of rfl rfl rfl ?_)
    clear hr
    generalize hesB : es ++ rowsB = esB at *
    generalize hhsB : hs ++ [0, 0, 0, 0, 0] = hsB at *
    have ehs : hsum hs = hsum hsB := by rw [← hhsB, hsum_append]; simp only [hsum, hadd_zero]
    rw [ehs]
    refine hold_loop (fun m g L => ∃ (k : Nat) (v : Value) (h R : Hp), k ≤ 66 ∧ m = 66 - k ∧ g = [(1, v), (3, .int .i64 k)] ∧ opsAt (fullA 258 ++ fullB ++ fullC k) v h ∧ L = h + fr + R) _ _
      ⟨0, v', h0' + hsum hsB, _, by omega, rfl, rfl, by rw [show fullC 0 = [] from rfl, List.append_nil]; exact nestAt_intro hr' hn', FrameI.out⟩ (by repeat (first | exact sub_nil _ | refine sub_cons rfl ?_)) ?_
    clear hL hr' hn' el hesB hhsB ehs hn hlen esB hsB es hs
    rintro m g L ⟨k, v, h, R, hk, rfl, rfl, ⟨es, hs, h0, hr, hn, rfl⟩, rfl⟩
    have hlen := hn.length.1
    rw [List.length_append, List.length_append, fullA_length, fullC_length, show fullB.length = 5 from rfl] at hlen
    repeat (first | refine hold_seq ?_ | refine hold_region_lit ?_ | refine L_of rfl rfl rfl ?_)
    refine L_dec rfl rfl (pv_lss rfl rfl) (fun h2 => ?_) (fun h2 => ?_)
    · repeat (first | refine hold_seq ?_ | refine hold_block ?_ | refine hold_region_lit ?_ | refine holdL_nil ?_ | refine L_of rfl rfl rfl ?_ | refine hold_skip ?_ | refine hold_cond_t rfl ?_ | refine L_build (cells := [_, _, _, _]) rfl rfl rfl rfl ?_)
      refine L_eff rfl rfl (ev_buildSlice (vs := [_]) (cells := [_, _, _, _]) rfl rfl rfl rfl) ?_
      rintro _ _ ⟨b2, rfl, rfl⟩
      have hnn : Nest isOp [⟨5, 200, k, []⟩] [[.int .i64 5, .int .i64 200, .int .i64 k, .slice none 0 0]] [0] := ⟨isOp_nil 5 200 k, trivial⟩
      refine L_eff rfl rfl (ev_append (xs := es) (h := h0) (ns := [[.int .i64 5, .int .i64 200, .int .i64 k, .slice none 0 0]]) rfl rfl hr (rd_one rfl) (hnn.all op_one) rfl rfl rfl (by simp; omega)) ?_
      rintro v' _ ⟨h0', hr', rfl⟩
      repeat (first | refine hold_region_lit ?_ | refine holdL_nil ?_ | refine L_of rfl rfl rfl ?_ | refine L_add rfl rfl (by omega) (by omega) rfl rfl ?_)
      have hn' := hn.append hnn
      rw [List.append_assoc, ← fullC_succ] at hn'
      exact ⟨66 - (k + 1), _, by omega, (by repeat (first | exact sub_nil _ | refine sub_cons rfl ?_)), k + 1, v', h0' + hsum (hs ++ [0]), _, by omega, rfl, rfl, nestAt_intro hr' hn', by rw [show hsum (hs ++ [0]) = hsum hs by rw [hsum_snoc, hadd_zero]]; exact FrameI.out⟩
    · obtain rfl : k = 66 := by omega
      repeat (first | refine hold_seq ?_ | refine hold_exit ?_ | refine hold_region_lit ?_ | refine holdL_nil ?_ | refine L_of rfl rfl rfl ?_ | refine hold_cond_f rfl ?_ | refine L_build (cells := [_, _, _, _]) rfl rfl rfl rfl ?_)
      refine L_eff rfl rfl (ev_buildSlice (vs := [_, _, _, _]) (cells := [_, _, _, _, _, _, _, _, _, _, _, _, _, _, _, _]) rfl rfl rfl rfl) ?_
      rintro _ _ ⟨b4, rfl, hL⟩
      have hL' : _ = pt b4 (.cells (rowsD.flatten ++ []).toArray 59 (0, 0)) + (h0 + hsum hs + fr + R) := hL
      subst hL'
      refine L_eff rfl rfl (ev_append (xs := es) (h := h0) (ns := rowsD) rfl rfl hr (rd_block (c := 4) nestD_len) (nestD.all op_one) rfl rfl rfl (by simp [rowsD, fullD]; omega)) ?_
      rintro v' _ ⟨h0', hr', rfl⟩
      have hn' := hn.append nestD
      repeat (first | refine hold_seq ?_ | refine hold_region_lit ?_ | refine holdL_nil ?_ | refine L_of rfl rfl rfl ?_)
      have ehs : hsum (hs ++ [0, 0, 0, 0]) = hsum hs := by rw [hsum_append]; simp only [hsum, hadd_zero]
      have hops : opsAt (fullA 258 ++ fullB ++ fullC 66 ++ fullD) v' (h0' + hsum hs) := by rw [← ehs]; exact nestAt_intro hr' hn'
      have hrd : RdOpsL w0 (h0' + hsum hs) v' (fullA 258 ++ fullB ++ fullC 66 ++ fullD) := hops.rd fun o ho => (full_fine o ho).2
      have hfl : (fullA 258 ++ fullB ++ fullC 66 ++ fullD).length ≤ 17592186044416 := by simp [fullA_length, fullC_length, fullB, fullD]
      have hruns := runs_at w0 _ v' _ hrd hfl fun o ho => (full_fine o ho).1
      have hkeeps := keeps_at w0 _ v' _ hrd hfl
      clear hops hrd hfl hn' hn
      refine L_call rfl rfl (cv_fun rfl rfl rfl) hruns ?_
      rintro _ _ ⟨rfl, rfl⟩
      repeat (refine L_of rfl rfl rfl ?_)
      refine L_call rfl rfl (cv_fun rfl rfl rfl) hkeeps ?_
      rintro _ _ ⟨rfl, rfl⟩
      repeat (first | refine holdL_nil ?_ | refine L_of rfl rfl rfl ?_ | refine hold_ret ?_)
      exact ⟨[_], 0, _, ⟨rfl, trivial⟩, ⟨rfl, rfl⟩, FrameI.out⟩
end Sl
end Go.Proofs.Ytfdimkpanbgffaa
