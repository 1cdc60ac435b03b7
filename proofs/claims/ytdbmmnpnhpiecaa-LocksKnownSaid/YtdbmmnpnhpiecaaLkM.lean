/-
  The document's CopyLocks, Clash, Elder, writes, put.
-/
import Derived.Test.YtdbmmnpnhpiecaaLkX
namespace Go.Proofs.Ytdbmmnpnhpiecaa
open Go Go.RowKit
namespace Sl
set_option linter.unusedVariables false
set_option linter.unusedSimpArgs false
set_option maxHeartbeats 4000000
set_option maxRecDepth 4000
attribute [local irreducible] Hold HoldL HoldW
theorem copyLocks_spec (w0 : World) (X : Hp) (v : Value) (l : List Lk) (hv : RdRow w0 X 4 v (encL l)) (hl : l.length ≤ 1000000) :
    Spec Try.prog w0 46 [v] X (fun r h' => ∃ h, locksAt l r h ∧ X + h = h') := by
  obtain ⟨a, c, rfl, ha⟩ := id hv
  rw [encL_length] at *
  refine spec_of_hold_d Try.func46 rfl Try.ntmps46 Try.results46 rfl fun fr => ?_
  repeat (first | refine hold_seq ?_ | refine hold_block ?_ | refine hold_region_lit ?_ | refine holdL_nil ?_ | refine L_of rfl rfl rfl ?_)
  refine hold_loop (fun m g L => ∃ (k : Nat) (vo : Value) (h R : Hp), k ≤ l.length ∧ m = l.length - k ∧ g = [(0, .slice a l.length c), (3, vo), (4, .int .i64 k)] ∧ locksAt (l.take k) vo h ∧ L = X + h + fr + R) _ _
    ⟨0, .slice none 0 0, 0, 0, by omega, rfl, rfl, isRow_empty _ _ _, by simp only [hadd_zero]⟩ (by repeat (first | exact sub_nil _ | refine sub_cons rfl ?_)) ?_
  rintro m g L ⟨k, vo, h, R, hk, rfl, rfl, hr, rfl⟩
  repeat (first | refine hold_seq ?_ | refine hold_region_lit ?_ | refine L_of rfl rfl rfl ?_ | refine L_len rfl rfl rfl ?_)
  refine L_dec rfl rfl (pv_lss rfl rfl) (fun h2 => ?_) (fun h2 => ?_)
  · have hx : k < l.length := by omega
    obtain ⟨b2, o2, rfl, hc2⟩ := ha.2 k _ (encL_at hx)
    repeat (first | refine hold_seq ?_ | refine hold_block ?_ | refine hold_region_lit ?_ | refine holdL_nil ?_ | refine L_of rfl rfl rfl ?_ | refine hold_skip ?_ | refine hold_cond_t rfl ?_)
    refine L_pure rfl rfl (pv_indexAddr rfl rfl hx) ?_
    refine L_load rfl rfl (lv_load rfl) (loads_aggR rfl [_, _, _, _] rfl (fun j u hj => (hc2 j u hj).frame)) ?_
    refine L_eff rfl rfl (ev_buildSlice (vs := [_]) (cells := [_, _, _, _]) rfl rfl rfl rfl) ?_
    rintro _ _ ⟨b4, rfl, rfl⟩
    refine L_eff rfl rfl (ev_append (xs := encL (l.take k)) (h := h) (ns := encL [l[k]]) rfl rfl hr (rd_one rfl) (encL_one _) rfl rfl rfl (by simp only [encL_length, List.length_take, List.length_singleton]; omega)) ?_
    rintro v' _ ⟨h', hr', rfl⟩
    repeat (first | refine hold_region_lit ?_ | refine holdL_nil ?_ | refine L_of rfl rfl rfl ?_ | refine L_add rfl rfl (by omega) (by omega) rfl rfl ?_)
    rw [show encL (l.take k) ++ encL [l[k]] = encL (l.take (k + 1)) by rw [List.take_succ_eq_append_getElem hx]; simp only [encL, List.map_append]] at hr'
    exact ⟨l.length - (k + 1), _, by omega, (by repeat (first | exact sub_nil _ | refine sub_cons rfl ?_)), k + 1, v', h', _, by omega, rfl, rfl, hr', FrameI.out⟩
  · repeat (first | refine hold_seq ?_ | refine hold_exit ?_ | refine hold_region_lit ?_ | refine holdL_nil ?_ | refine L_of rfl rfl rfl ?_ | refine hold_ret ?_ | refine hold_cond_f rfl ?_)
    rw [List.take_of_length_le (by omega)] at hr
    exact ⟨[_], X + h, _, ⟨rfl, trivial⟩, ⟨h, hr, rfl⟩, FrameI.out⟩
theorem refClash_spec (w0 : World) (x k : Lk) : Spec Try.prog w0 58 [aggL x, aggL k] 0 (fun r h' => r = .bool (clashL x k) ∧ 0 = h') := by
  refine spec_of_hold_d Try.func58 rfl Try.ntmps58 Try.results58 rfl fun fr => ?_
  unfold aggL
  repeat (first | refine hold_seq ?_ | refine hold_region_lit ?_)
  refine L_box rfl (c := [_, _, _, _]) rfl rfl rfl (fun b1 => ?_)
  refine L_box rfl (c := [_, _, _, _]) rfl rfl rfl (fun b2 => ?_)
  repeat (first | refine hold_seq ?_ | refine hold_region_lit ?_ | refine holdL_nil ?_ | refine L_of rfl rfl rfl ?_ | refine L_field rfl rfl rfl rfl rfl ?_ | refine L_ld rfl rfl rfl rfl rfl ?_)
  refine L_dec rfl rfl (pv_neq rfl rfl) (fun h1 => ?_) (fun h1 => ?_)
  · repeat (first | refine hold_seq ?_ | refine hold_region_lit ?_ | refine holdL_nil ?_ | refine L_of rfl rfl rfl ?_ | refine L_skip rfl rfl ?_ | refine hold_ret ?_ | refine hold_cond_t rfl ?_)
    exact ⟨[_], 0, _, ⟨rfl, trivial⟩, ⟨by simp [clashL, h1, oneV], rfl⟩, FrameI.out⟩
  · have h1' : x.block = k.block := by simpa using h1
    repeat (first | refine L_of rfl rfl rfl ?_ | refine L_field rfl rfl rfl rfl rfl ?_ | refine L_ld rfl rfl rfl rfl rfl ?_)
    refine L_dec rfl rfl (pv_eql rfl rfl) (fun h2 => ?_) (fun h2 => ?_)
    · repeat (first | refine hold_seq ?_ | refine hold_region_lit ?_ | refine holdL_nil ?_ | refine L_of rfl rfl rfl ?_ | refine hold_ret ?_ | refine hold_cond_t rfl ?_)
      exact ⟨[_], 0, _, ⟨rfl, trivial⟩, ⟨by simp [clashL, h2, oneV], rfl⟩, FrameI.out⟩
    · cases hw : x.write
      · repeat (first | refine hold_seq ?_ | refine hold_region_lit ?_ | refine holdL_nil ?_ | refine L_of rfl rfl rfl ?_ | refine L_field rfl rfl rfl rfl rfl ?_ | refine L_ld rfl rfl rfl rfl rfl ?_ | refine hold_skip ?_ | refine hold_ret ?_ | refine hold_cond_f rfl ?_)
        exact ⟨[_], 0, _, ⟨rfl, trivial⟩, ⟨by simp [clashL, h1', h2, hw, oneV], rfl⟩, FrameI.out⟩
      · repeat (first | refine hold_seq ?_ | refine hold_region_lit ?_ | refine holdL_nil ?_ | refine L_of rfl rfl rfl ?_ | refine L_field rfl rfl rfl rfl rfl ?_ | refine L_ld rfl rfl rfl rfl rfl ?_ | refine L_skip rfl rfl ?_ | refine hold_skip ?_ | refine hold_ret ?_ | refine hold_cond_f rfl ?_)
        exact ⟨[_], 0, _, ⟨rfl, trivial⟩, ⟨by simp [clashL, h1', h2, hw, oneV], rfl⟩, FrameI.out⟩
theorem refElder_spec (w0 : World) (x k : Lk) : Spec Try.prog w0 59 [aggL x, aggL k] 0 (fun r h' => r = .bool (elderL x k) ∧ 0 = h') := by
  refine spec_of_hold_d Try.func59 rfl Try.ntmps59 Try.results59 rfl fun fr => ?_
  unfold aggL
  repeat (first | refine hold_seq ?_ | refine hold_region_lit ?_)
  refine L_box rfl (c := [_, _, _, _]) rfl rfl rfl (fun b1 => ?_)
  refine L_box rfl (c := [_, _, _, _]) rfl rfl rfl (fun b2 => ?_)
  repeat (first | refine hold_seq ?_ | refine hold_region_lit ?_ | refine holdL_nil ?_ | refine L_of rfl rfl rfl ?_ | refine L_field rfl rfl rfl rfl rfl ?_ | refine L_ld rfl rfl rfl rfl rfl ?_)
  refine L_dec rfl rfl (pv_eql rfl rfl) (fun h1 => ?_) (fun h1 => ?_)
  · repeat (first | refine hold_seq ?_ | refine hold_region_lit ?_ | refine holdL_nil ?_ | refine L_field rfl rfl rfl rfl rfl ?_ | refine L_ld rfl rfl rfl rfl rfl ?_ | refine hold_cond_t rfl ?_)
    refine L_pure rfl rfl (pv_lss rfl rfl) ?_
    repeat (first | refine holdL_nil ?_ | refine L_of rfl rfl rfl ?_ | refine hold_ret ?_)
    exact ⟨[_], 0, _, ⟨rfl, trivial⟩, ⟨by show Value.bool _ = Value.bool _; congr 1; unfold elderL elderV; refine decide_eq_decide.2 ?_; omega, rfl⟩, FrameI.out⟩
  · repeat (first | refine hold_seq ?_ | refine hold_region_lit ?_ | refine holdL_nil ?_ | refine L_field rfl rfl rfl rfl rfl ?_ | refine L_ld rfl rfl rfl rfl rfl ?_ | refine hold_skip ?_ | refine hold_cond_f rfl ?_)
    refine L_pure rfl rfl (pv_lss rfl rfl) ?_
    repeat (first | refine holdL_nil ?_ | refine L_of rfl rfl rfl ?_ | refine hold_ret ?_)
    exact ⟨[_], 0, _, ⟨rfl, trivial⟩, ⟨by show Value.bool _ = Value.bool _; congr 1; unfold elderL elderV; refine decide_eq_decide.2 ?_; omega, rfl⟩, FrameI.out⟩
theorem upF_none {k : Lk} : ∀ {l : List Lk}, (∀ x ∈ l, sameSpot k x = false) → upF k l = l
  | [], _ => rfl
  | x :: l, h => by
    have hx : sameSpot k x = false := h x (by simp)
    simp [upF, hx, upF_none (l := l) (fun y hy => h y (by simp [hy]))]
theorem insF_snoc {k y : Lk} : ∀ {l : List Lk}, (∃ x ∈ l, behindL k x = true) → insF k (l ++ [y]) = insF k l ++ [y]
  | [], h => by obtain ⟨x, hx, _⟩ := h; cases hx
  | x :: l, h => by
    by_cases hb : behindL k x = true
    · simp [insF, hb]
    · have : ∃ z ∈ l, behindL k z = true := by
        obtain ⟨z, hz, hzb⟩ := h
        rcases List.mem_cons.1 hz with rfl | hz
        · exact absurd hzb hb
        · exact ⟨z, hz, hzb⟩
      simp [insF, hb, insF_snoc this]
theorem insF_first {k y : Lk} {l : List Lk} (h : ∀ x ∈ l, behindL k x = false) (hy : behindL k y = true) : insF k (l ++ [y]) = l ++ [k] ++ [y] := by
  have := insF_at (k := k) (l := l ++ [y]) (n := l.length) (by simp) (by simpa using hy) (by simpa using h)
  simpa using this
theorem writes_spec (w0 : World) (X : Hp) (v : Value) (l : List Lk) (k : Lk) (hv : RdRow w0 X 4 v (encL l)) (hl : l.length ≤ 1000000) :
    Spec Try.prog w0 60 [v, aggL k] X (fun r h' => ∃ h, locksAt (upF k l) r h ∧ X + h = h') := by
  have hcopy := copyLocks_spec w0 X v l hv hl
  obtain ⟨a, c, rfl⟩ := hv.shape
  rw [encL_length] at *
  unfold aggL
  refine spec_of_hold_d Try.func60 rfl Try.ntmps60 Try.results60 rfl fun fr => ?_
  repeat (first | refine hold_seq ?_ | refine hold_region_lit ?_)
  refine L_box rfl (c := [_, _, _, _]) rfl rfl rfl (fun b3 => ?_)
  repeat (first | refine hold_seq ?_ | refine hold_region_lit ?_ | refine holdL_nil ?_ | refine L_of rfl rfl rfl ?_)
  refine L_call rfl rfl (cv_fun rfl rfl rfl) hcopy ?_
  rintro vo _ ⟨h, hla, rfl⟩
  obtain ⟨a5, c5, rfl⟩ := hla.shape
  rw [encL_length] at *
  repeat (first | refine hold_seq ?_ | refine hold_block ?_ | refine hold_region_lit ?_ | refine holdL_nil ?_ | refine L_of rfl rfl rfl ?_)
  refine hold_loop (fun m g L => ∃ i : Nat, i ≤ l.length ∧ m = l.length - i ∧ g = [(3, .pointer (some ⟨b3, 0, none⟩)), (5, .slice a5 l.length c5), (6, .int .i64 i)] ∧ (∀ x ∈ l.take i, sameSpot k x = false) ∧
      L = X + h + pt b3 (.cells [.int .i64 k.block, .int .i64 k.txn, .int .i64 k.age, .bool k.write].toArray 24 (0, 0)) + fr) _ _ ⟨0, by omega, rfl, rfl, by simp, by first | rfl | ac_rfl⟩ (by repeat (first | exact sub_nil _ | refine sub_cons rfl ?_)) ?_
  rintro m g L ⟨i, hi, rfl, rfl, hpre, rfl⟩
  repeat (first | refine hold_seq ?_ | refine hold_region_lit ?_ | refine L_of rfl rfl rfl ?_ | refine L_len rfl rfl rfl ?_)
  refine L_dec rfl rfl (pv_lss rfl rfl) (fun n1 => ?_) (fun n1 => ?_)
  · have hx : i < l.length := by omega
    obtain ⟨gb, cap, spare, e1, rfl, hes, hcap, hmax, hsp⟩ := hla.nonempty (by intro e; rw [← List.length_eq_zero_iff, encL_length] at e; omega)
    simp only [Value.slice.injEq] at e1
    obtain ⟨rfl, -, rfl⟩ := e1
    repeat (first | refine hold_seq ?_ | refine hold_block ?_ | refine holdL_nil ?_ | refine hold_skip ?_ | refine hold_cond_t rfl ?_)
    refine hold_norm (fun g' L' => Sub g' [(3, .pointer (some ⟨b3, 0, none⟩)), (5, .slice (some ⟨gb, 0, none⟩) l.length c5), (6, .int .i64 i), (32, .bool (sameSpot k l[i]))] ∧
      L' = X + pt gb (.cells ((encL l).flatten ++ spare).toArray 24 (0, 0)) + pt b3 (.cells [.int .i64 k.block, .int .i64 k.txn, .int .i64 k.age, .bool k.write].toArray 24 (0, 0)) + fr) ?_ ?_
    · refine hold_draw [] [0, 1, 2, 3, 4, 5, 6, 7, 8, 9, 10, 11, 12, 13, 14, 15, 16, 17] (by kernel_rfl) rfl (by kernel_rfl) (by kernel_rfl) ?_
      repeat (refine W_of rfl rfl rfl rfl rfl ?_)
      refine W_pure rfl rfl rfl rfl (pv_indexAddr rfl rfl hx) ?_
      repeat (refine W_pure rfl rfl rfl rfl (pv_fieldAddr rfl rfl rfl) ?_)
      refine W_load rfl rfl rfl rfl (lv_load rfl) (loads_row1 (o := 1) rfl hes (encL_at hx) rfl) ?_
      repeat (first | refine W_pure rfl rfl rfl rfl (pv_fieldAddr rfl rfl rfl) ?_ | refine W_load rfl rfl rfl rfl (lv_load rfl) (loads_scalar rfl (reads_pt rfl)) ?_)
      refine W_dec rfl rfl rfl rfl (pv_eql rfl rfl) (fun n2 => ?_) (fun n2 => ?_)
      · repeat (refine W_of rfl rfl rfl rfl rfl ?_)
        refine W_pure rfl rfl rfl rfl (pv_indexAddr rfl rfl hx) ?_
        repeat (refine W_pure rfl rfl rfl rfl (pv_fieldAddr rfl rfl rfl) ?_)
        refine W_load rfl rfl rfl rfl (lv_load rfl) (loads_row1 (o := 0) rfl hes (encL_at hx) rfl) ?_
        repeat (first | refine W_pure rfl rfl rfl rfl (pv_fieldAddr rfl rfl rfl) ?_ | refine W_load rfl rfl rfl rfl (lv_load rfl) (loads_scalar rfl (reads_pt rfl)) ?_)
        refine W_pure rfl rfl rfl rfl (pv_eql rfl rfl) ?_
        repeat (first | refine W_nil ?_ | refine W_of rfl rfl rfl rfl rfl ?_)
        rw [show sameSpot k l[i] = decide (l[i].block = k.block) by simp [sameSpot, n2]]
        exact ⟨(by repeat (first | exact sub_nil _ | refine sub_cons rfl ?_)), rfl⟩
      · repeat (first | refine W_nil ?_ | refine W_of rfl rfl rfl rfl rfl ?_ | refine W_skip rfl rfl rfl rfl ?_)
        rw [show sameSpot k l[i] = false by simp [sameSpot, n2]]
        exact ⟨(by repeat (first | exact sub_nil _ | refine sub_cons rfl ?_)), rfl⟩
    · rintro g' _ ⟨hsub, rfl⟩
      refine hold_env hsub ?_
      clear hsub g'
      cases hss : sameSpot k l[i]
      · repeat (first | refine hold_region_lit ?_ | refine holdL_nil ?_ | refine L_of rfl rfl rfl ?_ | refine hold_skip ?_ | refine hold_cond_f rfl ?_ | refine L_add rfl rfl (by omega) (by omega) rfl rfl ?_)
        refine ⟨l.length - (i + 1), _, by omega, (by repeat (first | exact sub_nil _ | refine sub_cons rfl ?_)), i + 1, by omega, rfl, rfl, fun x hm => ?_, rfl⟩
        rw [List.take_succ_eq_append_getElem hx, List.mem_append, List.mem_singleton] at hm
        rcases hm with hm | rfl
        · exact hpre x hm
        · exact hss
      · repeat (first | refine hold_seq ?_ | refine hold_region_lit ?_ | refine L_of rfl rfl rfl ?_ | refine hold_cond_t rfl ?_)
        refine L_pure rfl rfl (pv_indexAddr rfl rfl hx) ?_
        repeat (refine L_field rfl rfl rfl rfl rfl ?_)
        refine L_st rfl rfl (row_get0 (j := 3) hes spare (encL_at hx) rfl) (row_set0 (j := 3) hes spare _ (encL_at hx) (by omega)) rfl rfl rfl ?_
        repeat (first | refine hold_seq ?_ | refine hold_region_lit ?_ | refine holdL_nil ?_ | refine L_of rfl rfl rfl ?_ | refine hold_ret ?_)
        have hset : (encL l).set i ([Value.int .i64 l[i].block, .int .i64 l[i].txn, .int .i64 l[i].age, .bool l[i].write].set 3 (.bool true)) = encL (upF k l) := by
          rw [upF_at hx hss hpre]; exact encL_set l i { l[i] with write := true }
        have hrow : locksAt (upF k l) (.slice (some ⟨gb, 0, none⟩) l.length c5) (pt gb (.cells ((encL (upF k l)).flatten ++ spare).toArray 24 (0, 0))) := by
          have hln : (encL (upF k l)).length = l.length := by rw [upF_at hx hss hpre]; simp [encL_length]
          have := isRow_block (E := 24) (b := gb) (cap := c5) (spare := spare) (encL_len4 (upF k l)) (by rw [hln]; rw [encL_length] at hcap; exact hcap) hmax (by rw [hln]; rw [encL_length] at hsp; exact hsp)
          rwa [hln] at this
        rw [hset]
        exact ⟨[_], X + pt gb (.cells ((encL (upF k l)).flatten ++ spare).toArray 24 (0, 0)), _, ⟨rfl, trivial⟩, ⟨_, hrow, rfl⟩, FrameI.out⟩
  · rw [List.take_of_length_le (by omega)] at hpre
    repeat (first | refine hold_seq ?_ | refine hold_exit ?_ | refine hold_region_lit ?_ | refine holdL_nil ?_ | refine L_of rfl rfl rfl ?_ | refine hold_ret ?_ | refine hold_cond_f rfl ?_)
    exact ⟨[_], X + h, _, ⟨rfl, trivial⟩, ⟨h, by rw [upF_none hpre]; exact hla, rfl⟩, FrameI.out⟩
theorem put_spec (w0 : World) (X : Hp) (v : Value) (l : List Lk) (k : Lk) (hv : RdRow w0 X 4 v (encL l)) (hl : l.length ≤ 1000000) :
    Spec Try.prog w0 61 [v, aggL k] X (fun r h' => ∃ h, locksAt (insF k l) r h ∧ X + h = h') := by
  obtain ⟨a, c, rfl, ha⟩ := id hv
  rw [encL_length] at *
  unfold aggL
  refine spec_of_hold_d Try.func61 rfl Try.ntmps61 Try.results61 rfl fun fr => ?_
  repeat (first | refine hold_seq ?_ | refine hold_region_lit ?_)
  refine L_box rfl (c := [_, _, _, _]) rfl rfl rfl (fun b3 => ?_)
  repeat (first | refine hold_seq ?_ | refine hold_block ?_ | refine hold_region_lit ?_ | refine holdL_nil ?_ | refine L_of rfl rfl rfl ?_)
  refine hold_loop (fun m g L => ∃ (i : Nat) (vo : Value) (o : List Lk) (h R : Hp) (cc : Bool), i ≤ l.length ∧ m = l.length - i ∧ g = [(0, .slice a l.length c), (3, .pointer (some ⟨b3, 0, none⟩)), (5, vo), (6, .bool cc), (7, .int .i64 i)] ∧ locksAt o vo h ∧ o.length ≤ i + 1 ∧
      ((cc = false ∧ o = l.take i ∧ ∀ x ∈ l.take i, behindL k x = false) ∨ (cc = true ∧ o = insF k (l.take i) ∧ ∃ x ∈ l.take i, behindL k x = true)) ∧
      L = X + h + pt b3 (.cells [.int .i64 k.block, .int .i64 k.txn, .int .i64 k.age, .bool k.write].toArray 24 (0, 0)) + fr + R) _ _
    ⟨0, .slice none 0 0, [], 0, 0, false, by omega, rfl, rfl, isRow_empty _ _ _, by simp, .inl ⟨rfl, rfl, by simp⟩, by simp only [hadd_zero]; first | rfl | ac_rfl⟩ (by repeat (first | exact sub_nil _ | refine sub_cons rfl ?_)) ?_
  rintro m g L ⟨i, vo, o, h, R, cc, hi, rfl, rfl, hro, hlo, hinv, rfl⟩
  repeat (first | refine hold_seq ?_ | refine hold_region_lit ?_ | refine L_of rfl rfl rfl ?_ | refine L_len rfl rfl rfl ?_)
  refine L_dec rfl rfl (pv_lss rfl rfl) (fun n1 => ?_) (fun n1 => ?_)
  · have hx : i < l.length := by omega
    obtain ⟨b2, o2, rfl, hc2⟩ := ha.2 i _ (encL_at hx)
    have htk : l.take (i + 1) = l.take i ++ [l[i]] := List.take_succ_eq_append_getElem hx
    repeat (first | refine hold_seq ?_ | refine hold_block ?_ | refine holdL_nil ?_ | refine hold_skip ?_ | refine hold_cond_t rfl ?_)
    refine hold_norm (fun g' L' => Sub g' [(0, .slice (some ⟨b2, o2, none⟩) l.length c), (3, .pointer (some ⟨b3, 0, none⟩)), (5, vo), (6, .bool cc), (7, .int .i64 i), (8, .bool (behindL k l[i]))] ∧
      L' = X + h + pt b3 (.cells [.int .i64 k.block, .int .i64 k.txn, .int .i64 k.age, .bool k.write].toArray 24 (0, 0)) + fr + R) ?_ ?_
    · refine hold_draw [] [0, 1, 2, 3, 4, 5, 6, 7, 8, 9, 10, 11, 12, 13, 14, 15, 16, 17, 18, 19, 20, 21, 22, 23, 24, 25, 26, 27, 28] (by kernel_rfl) rfl (by kernel_rfl) (by kernel_rfl) ?_
      repeat (refine W_of rfl rfl rfl rfl rfl ?_)
      refine W_pure rfl rfl rfl rfl (pv_indexAddr rfl rfl hx) ?_
      repeat (refine W_pure rfl rfl rfl rfl (pv_fieldAddr rfl rfl rfl) ?_)
      refine W_load rfl rfl rfl rfl (lv_load rfl) (loads_scalar rfl ((hc2 0 _ rfl).frame)) ?_
      repeat (first | refine W_pure rfl rfl rfl rfl (pv_fieldAddr rfl rfl rfl) ?_ | refine W_load rfl rfl rfl rfl (lv_load rfl) (loads_scalar rfl (reads_pt rfl)) ?_)
      refine W_dec rfl rfl rfl rfl (pv_gtr rfl rfl) (fun n2 => ?_) (fun n2 => ?_)
      · repeat (first | refine W_nil ?_ | refine W_of rfl rfl rfl rfl rfl ?_ | refine W_skip rfl rfl rfl rfl ?_)
        rw [show behindL k l[i] = true by simp [behindL, n2]]
        exact ⟨(by repeat (first | exact sub_nil _ | refine sub_cons rfl ?_)), rfl⟩
      · repeat (refine W_of rfl rfl rfl rfl rfl ?_)
        refine W_pure rfl rfl rfl rfl (pv_indexAddr rfl rfl hx) ?_
        repeat (refine W_pure rfl rfl rfl rfl (pv_fieldAddr rfl rfl rfl) ?_)
        refine W_load rfl rfl rfl rfl (lv_load rfl) (loads_scalar rfl ((hc2 0 _ rfl).frame)) ?_
        repeat (first | refine W_pure rfl rfl rfl rfl (pv_fieldAddr rfl rfl rfl) ?_ | refine W_load rfl rfl rfl rfl (lv_load rfl) (loads_scalar rfl (reads_pt rfl)) ?_)
        refine W_dec rfl rfl rfl rfl (pv_eql rfl rfl) (fun n3 => ?_) (fun n3 => ?_)
        · repeat (refine W_of rfl rfl rfl rfl rfl ?_)
          refine W_pure rfl rfl rfl rfl (pv_indexAddr rfl rfl hx) ?_
          repeat (refine W_pure rfl rfl rfl rfl (pv_fieldAddr rfl rfl rfl) ?_)
          refine W_load rfl rfl rfl rfl (lv_load rfl) (loads_scalar rfl ((hc2 1 _ rfl).frame)) ?_
          repeat (first | refine W_pure rfl rfl rfl rfl (pv_fieldAddr rfl rfl rfl) ?_ | refine W_load rfl rfl rfl rfl (lv_load rfl) (loads_scalar rfl (reads_pt rfl)) ?_)
          refine W_pure rfl rfl rfl rfl (pv_gtr rfl rfl) ?_
          repeat (first | refine W_nil ?_ | refine W_of rfl rfl rfl rfl rfl ?_)
          rw [show behindL k l[i] = decide (k.txn < l[i].txn) by simp [behindL, n3]]
          exact ⟨(by repeat (first | exact sub_nil _ | refine sub_cons rfl ?_)), rfl⟩
        · repeat (first | refine W_nil ?_ | refine W_of rfl rfl rfl rfl rfl ?_ | refine W_skip rfl rfl rfl rfl ?_)
          rw [show behindL k l[i] = false by simp [behindL, n2, n3]]
          exact ⟨(by repeat (first | exact sub_nil _ | refine sub_cons rfl ?_)), rfl⟩
    · rintro g' _ ⟨hsub, rfl⟩
      refine hold_env hsub ?_
      clear hsub g'
      rcases hinv with ⟨rfl, rfl, hno⟩ | ⟨rfl, rfl, hyes⟩
      · cases hb : behindL k l[i]
        · repeat (first | refine hold_seq ?_ | refine hold_region_lit ?_ | refine holdL_nil ?_ | refine L_of rfl rfl rfl ?_ | refine hold_skip ?_ | refine hold_cond_f rfl ?_)
          refine L_pure rfl rfl (pv_indexAddr rfl rfl hx) ?_
          refine L_load rfl rfl (lv_load rfl) (loads_aggR rfl [_, _, _, _] rfl (fun j u hj => (hc2 j u hj).frame)) ?_
          refine L_eff rfl rfl (ev_buildSlice (vs := [_]) (cells := [_, _, _, _]) rfl rfl rfl rfl) ?_
          rintro _ _ ⟨b4, rfl, rfl⟩
          refine L_eff rfl rfl (ev_append (xs := encL (l.take i)) (h := h) (ns := encL [l[i]]) rfl rfl hro (rd_one rfl) (encL_one _) rfl rfl rfl (by simp only [encL_length, List.length_take, List.length_singleton]; omega)) ?_
          rintro v' _ ⟨h', hr', rfl⟩
          repeat (first | refine hold_region_lit ?_ | refine holdL_nil ?_ | refine L_of rfl rfl rfl ?_ | refine L_add rfl rfl (by omega) (by omega) rfl rfl ?_)
          rw [show encL (l.take i) ++ encL [l[i]] = encL (l.take (i + 1)) by rw [htk]; simp only [encL, List.map_append]] at hr'
          refine ⟨l.length - (i + 1), _, by omega, (by repeat (first | exact sub_nil _ | refine sub_cons rfl ?_)), i + 1, v', _, h', _, false, by omega, rfl, rfl, hr', by rw [List.length_take]; omega, .inl ⟨rfl, rfl, fun x hm => ?_⟩, FrameI.out⟩
          rw [htk, List.mem_append, List.mem_singleton] at hm
          rcases hm with hm | rfl
          · exact hno x hm
          · exact hb
        · repeat (first | refine hold_seq ?_ | refine hold_region_lit ?_ | refine holdL_nil ?_ | refine L_of rfl rfl rfl ?_ | refine hold_cond_t rfl ?_ | refine L_ldA rfl (vs := [_, _, _, _]) rfl rfl rfl rfl rfl ?_)
          refine L_eff rfl rfl (ev_buildSlice (vs := [_]) (cells := [_, _, _, _]) rfl rfl rfl rfl) ?_
          rintro _ _ ⟨b4, rfl, rfl⟩
          refine L_eff rfl rfl (ev_append (xs := encL (l.take i)) (h := h) (ns := encL [k]) rfl rfl hro (rd_one rfl) (encL_one _) rfl rfl rfl (by simp only [encL_length, List.length_take, List.length_singleton]; omega)) ?_
          rintro v' _ ⟨h', hr', rfl⟩
          repeat (first | refine hold_region_lit ?_ | refine holdL_nil ?_ | refine L_of rfl rfl rfl ?_)
          rw [show encL (l.take i) ++ encL [k] = encL (l.take i ++ [k]) by simp only [encL, List.map_append]] at hr'
          refine L_pure rfl rfl (pv_indexAddr rfl rfl hx) ?_
          refine L_load rfl rfl (lv_load rfl) (loads_aggR rfl [_, _, _, _] rfl (fun j u hj => (hc2 j u hj).frame)) ?_
          refine L_eff rfl rfl (ev_buildSlice (vs := [_]) (cells := [_, _, _, _]) rfl rfl rfl rfl) ?_
          rintro _ _ ⟨b5, rfl, rfl⟩
          refine L_eff rfl rfl (ev_append (xs := encL (l.take i ++ [k])) (h := h') (ns := encL [l[i]]) rfl rfl hr' (rd_one rfl) (encL_one _) rfl rfl rfl (by simp only [encL_length, List.length_append, List.length_take, List.length_singleton]; omega)) ?_
          rintro v2 _ ⟨h2, hr2, rfl⟩
          repeat (first | refine hold_region_lit ?_ | refine holdL_nil ?_ | refine L_of rfl rfl rfl ?_ | refine L_add rfl rfl (by omega) (by omega) rfl rfl ?_)
          rw [show encL (l.take i ++ [k]) ++ encL [l[i]] = encL (insF k (l.take (i + 1))) by rw [htk, insF_first hno hb]; simp only [encL, List.map_append]] at hr2
          exact ⟨l.length - (i + 1), _, by omega, (by repeat (first | exact sub_nil _ | refine sub_cons rfl ?_)), i + 1, v2, _, h2, _, true, by omega, rfl, rfl, hr2, by rw [htk, insF_first hno hb]; simp; omega, .inr ⟨rfl, rfl, l[i], by rw [htk]; exact List.mem_append.2 (.inr (List.mem_singleton.2 rfl)), hb⟩, FrameI.out⟩
      · repeat (first | refine hold_seq ?_ | refine hold_region_lit ?_ | refine holdL_nil ?_ | refine L_of rfl rfl rfl ?_ | refine L_skip rfl rfl ?_ | refine hold_skip ?_ | refine hold_cond_f rfl ?_)
        refine L_pure rfl rfl (pv_indexAddr rfl rfl hx) ?_
        refine L_load rfl rfl (lv_load rfl) (loads_aggR rfl [_, _, _, _] rfl (fun j u hj => (hc2 j u hj).frame)) ?_
        refine L_eff rfl rfl (ev_buildSlice (vs := [_]) (cells := [_, _, _, _]) rfl rfl rfl rfl) ?_
        rintro _ _ ⟨b4, rfl, rfl⟩
        refine L_eff rfl rfl (ev_append (xs := encL (insF k (l.take i))) (h := h) (ns := encL [l[i]]) rfl rfl hro (rd_one rfl) (encL_one _) rfl rfl rfl (by simp only [encL_length, List.length_singleton]; omega)) ?_
        rintro v' _ ⟨h', hr', rfl⟩
        repeat (first | refine hold_region_lit ?_ | refine holdL_nil ?_ | refine L_of rfl rfl rfl ?_ | refine L_add rfl rfl (by omega) (by omega) rfl rfl ?_)
        rw [show encL (insF k (l.take i)) ++ encL [l[i]] = encL (insF k (l.take (i + 1))) by rw [htk, insF_snoc hyes]; simp only [encL, List.map_append]] at hr'
        refine ⟨l.length - (i + 1), _, by omega, (by repeat (first | exact sub_nil _ | refine sub_cons rfl ?_)), i + 1, v', _, h', _, true, by omega, rfl, rfl, hr', by rw [htk, insF_snoc hyes]; simp; omega, .inr ⟨rfl, rfl, ?_⟩, FrameI.out⟩
        obtain ⟨x, hxm, hxb⟩ := hyes
        exact ⟨x, by rw [htk]; exact List.mem_append.2 (.inl hxm), hxb⟩
  · rw [List.take_of_length_le (by omega)] at hinv
    rcases hinv with ⟨rfl, rfl, hno⟩ | ⟨rfl, rfl, hyes⟩
    · repeat (first | refine hold_seq ?_ | refine hold_exit ?_ | refine hold_region_lit ?_ | refine holdL_nil ?_ | refine L_of rfl rfl rfl ?_ | refine hold_cond_t rfl ?_ | refine hold_cond_f rfl ?_ | refine L_ldA rfl (vs := [_, _, _, _]) rfl rfl rfl rfl rfl ?_)
      refine L_eff rfl rfl (ev_buildSlice (vs := [_]) (cells := [_, _, _, _]) rfl rfl rfl rfl) ?_
      rintro _ _ ⟨b4, rfl, rfl⟩
      refine L_eff rfl rfl (ev_append (xs := encL o) (h := h) (ns := encL [k]) rfl rfl hro (rd_one rfl) (encL_one _) rfl rfl rfl (by simp only [encL_length, List.length_singleton]; omega)) ?_
      rintro v' _ ⟨h', hr', rfl⟩
      repeat (first | refine hold_seq ?_ | refine hold_region_lit ?_ | refine holdL_nil ?_ | refine L_of rfl rfl rfl ?_ | refine hold_ret ?_)
      rw [show encL o ++ encL [k] = encL (insF k o) by rw [insF_end hno]; simp only [encL, List.map_append]] at hr'
      exact ⟨[_], X + h', _, ⟨rfl, trivial⟩, ⟨h', hr', rfl⟩, FrameI.out⟩
    · repeat (first | refine hold_seq ?_ | refine hold_exit ?_ | refine hold_region_lit ?_ | refine holdL_nil ?_ | refine L_of rfl rfl rfl ?_ | refine hold_skip ?_ | refine hold_ret ?_ | refine hold_cond_f rfl ?_)
      exact ⟨[_], X + h, _, ⟨rfl, trivial⟩, ⟨h, hro, rfl⟩, FrameI.out⟩
end Sl
end Go.Proofs.Ytdbmmnpnhpiecaa
