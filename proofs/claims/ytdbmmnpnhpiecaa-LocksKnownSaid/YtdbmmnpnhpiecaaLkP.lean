/-
  The law LocksWaits over any locks.
-/
import Derived.Test.YtdbmmnpnhpiecaaLkO
import Derived.Test.YtdbmmnpnhpiecaaLkT
namespace Go.Proofs.Ytdbmmnpnhpiecaa
open Go Go.RowKit
namespace Sl
set_option linter.unusedVariables false
set_option linter.unusedSimpArgs false
set_option maxHeartbeats 4000000
set_option maxRecDepth 4000
attribute [local irreducible] Hold HoldL HoldW
def eldL (l : List Lk) (k : Lk) : Bool := l.all fun x => decide (x.txn = k.txn) || elderL k x
theorem take_busy {l a : List Lk} {k : Lk} {fixed w : List Int} {e : Int} (h : TakeP l k fixed a w e) (he : e = 11) : busyL l k fixed = true := by
  unfold TakeP at h
  split at h
  · exact absurd (h.2.2.symm.trans he) (by decide)
  · split at h
    · assumption
    · split at h
      · exact absurd (h.2.2.symm.trans he) (by decide)
      · exact absurd (h.2.2.symm.trans he) (by decide)
theorem elderL_asymm {x k : Lk} (h1 : elderL x k = true) : elderL k x = false := by
  unfold elderL elderV at *
  have := of_decide_eq_true h1
  exact decide_eq_false (by omega)
theorem eldest_calm {l a : List Lk} {k : Lk} {w : List Int} {e : Int} (h : TakeP l k [] a w e) (he : eldL l k = true) : e ≠ 11 := by
  intro h11
  have hb := take_busy h h11
  unfold busyL at hb
  obtain ⟨x, hx, hc⟩ := List.any_eq_true.1 hb
  simp only [Bool.and_eq_true, Bool.or_eq_true, decide_eq_true_eq, List.not_mem_nil, false_or] at hc
  unfold eldL at he
  have h2 := List.all_eq_true.1 he x hx
  simp only [Bool.or_eq_true, decide_eq_true_eq] at h2
  rcases h2 with h2 | h2
  · exact clash_txn hc.1 h2
  · rw [elderL_asymm hc.2] at h2; cases h2
theorem locksWaits_spec (w0 : World) (v : Value) (l : List Lk) (k : Lk) (u : Value) (fixed : List Int) (hv : RdRow w0 0 4 v (encL l)) (hl : l.length ≤ 17592186044416) (hu : RdRow w0 0 1 u (enc1 fixed)) (hf : fixed.length ≤ 17592186044416) :
    Spec Try.prog w0 26 [v, aggL k, u] 0 (fun r h' => r = .bool true ∧ 0 = h') := by
  have hin := fun t => in_spec w0 0 u fixed t
  have htake := take20_spec w0 0 v u l k fixed hv hu
  have htake0 := take20_spec w0 0 v (.slice none 0 0) l k [] hv (nilI w0 0)
  have held := fun x => lawElder_spec w0 x k
  have held2 := fun x => lawElder_spec w0 k x
  obtain ⟨va, vc, rfl, ha⟩ := id hv
  obtain ⟨ua, uc, rfl⟩ := hu.shape
  rw [encL_length] at *
  rw [enc1_length] at *
  unfold aggL at htake htake0 held held2 ⊢
  refine spec_of_hold_d Try.func26 rfl Try.ntmps26 Try.results26 rfl fun fr => ?_
  repeat (first | refine hold_seq ?_ | refine hold_region_lit ?_)
  refine L_box rfl (c := [_, _, _, _]) rfl rfl rfl (fun b4 => ?_)
  repeat (first | refine hold_seq ?_ | refine hold_region_lit ?_ | refine holdL_nil ?_ | refine L_of rfl rfl rfl ?_ | refine L_len rfl rfl rfl ?_)
  refine L_dec rfl rfl (pv_gtr rfl rfl) (fun n1 => ?_) (fun n1 => ?_)
  · repeat (first | refine hold_seq ?_ | refine hold_region_lit ?_ | refine holdL_nil ?_ | refine L_of rfl rfl rfl ?_ | refine L_skip rfl rfl ?_ | refine hold_cond_t rfl ?_)
    refine L_call rfl rfl (cv_fun rfl rfl rfl) (works20_spec w0) ?_
    rintro _ _ ⟨rfl, rfl⟩
    repeat (first | refine holdL_nil ?_ | refine L_of rfl rfl rfl ?_ | refine hold_ret ?_)
    exact ⟨[_], 0, _, ⟨rfl, trivial⟩, ⟨rfl, rfl⟩, FrameI.out⟩
  · repeat (first | refine L_of rfl rfl rfl ?_ | refine L_len rfl rfl rfl ?_)
    refine L_dec rfl rfl (pv_gtr rfl rfl) (fun n2 => ?_) (fun n2 => ?_)
    · repeat (first | refine hold_seq ?_ | refine hold_region_lit ?_ | refine holdL_nil ?_ | refine L_of rfl rfl rfl ?_ | refine hold_cond_t rfl ?_)
      refine L_call rfl rfl (cv_fun rfl rfl rfl) (works20_spec w0) ?_
      rintro _ _ ⟨rfl, rfl⟩
      repeat (first | refine holdL_nil ?_ | refine L_of rfl rfl rfl ?_ | refine hold_ret ?_)
      exact ⟨[_], 0, _, ⟨rfl, trivial⟩, ⟨rfl, rfl⟩, FrameI.out⟩
    · repeat (first | refine hold_seq ?_ | refine hold_region_lit ?_ | refine holdL_nil ?_ | refine L_of rfl rfl rfl ?_ | refine hold_skip ?_ | refine hold_cond_f rfl ?_ | refine L_ldA rfl (vs := [_, _, _, _]) rfl rfl rfl rfl rfl ?_)
      refine L_call rfl rfl (cv_fun rfl rfl rfl) (htake (by omega) (by omega)) ?_
      rintro _ _ ⟨v1, v2, e, a, w, ha1, hw1, rfl, hla, hwa, ht, rfl⟩
      repeat (first | refine hold_seq ?_ | refine hold_block ?_ | refine hold_region_lit ?_ | refine holdL_nil ?_ | refine L_of rfl rfl rfl ?_)
      refine hold_loop (fun m g L => ∃ (i : Nat) (R : Hp), i ≤ l.length ∧ m = l.length - i ∧ g = [(0, .slice va l.length vc), (2, .slice ua fixed.length uc), (4, .pointer (some ⟨b4, 0, none⟩)), (9, .int .i64 e), (10, .bool (busyL (l.take i) k fixed)), (11, .bool (eldL (l.take i) k)), (12, .int .i64 i)] ∧
          L = (pt b4 (.cells [.int .i64 k.block, .int .i64 k.txn, .int .i64 k.age, .bool k.write].toArray 24 (0, 0)) + fr) + R) _ _ ⟨0, _, by omega, rfl, rfl, FrameI.out⟩ (by repeat (first | exact sub_nil _ | refine sub_cons rfl ?_)) ?_
      rintro m g L ⟨i, R, hi, rfl, rfl, rfl⟩
      repeat (first | refine hold_seq ?_ | refine hold_region_lit ?_ | refine L_of rfl rfl rfl ?_ | refine L_len rfl rfl rfl ?_)
      refine L_dec rfl rfl (pv_lss rfl rfl) (fun n3 => ?_) (fun n3 => ?_)
      · have hx : i < l.length := by omega
        obtain ⟨b2, o2, rfl, hc2⟩ := ha.2 i _ (encL_at hx)
        have htk : l.take (i + 1) = l.take i ++ [l[i]] := List.take_succ_eq_append_getElem hx
        have hen : eldL (l.take (i + 1)) k = (eldL (l.take i) k && (decide (l[i].txn = k.txn) || elderL k l[i])) := by
          unfold eldL; rw [htk, List.all_append]; simp
        have hbn : busyL (l.take (i + 1)) k fixed = (busyL (l.take i) k fixed || (clashL l[i] k && (decide (l[i].txn ∈ fixed) || elderL l[i] k))) := by
          unfold busyL; rw [htk, List.any_append]; simp
        generalize busyL (l.take i) k fixed = wt at hbn ⊢
        generalize eldL (l.take i) k = el at hen ⊢
        generalize l[i] = x at hc2 hen hbn
        repeat (first | refine hold_seq ?_ | refine hold_block ?_ | refine hold_region_lit ?_ | refine holdL_nil ?_ | refine L_of rfl rfl rfl ?_ | refine hold_skip ?_ | refine hold_cond_t rfl ?_)
        refine L_pure rfl rfl (pv_indexAddr rfl rfl hx) ?_
        refine L_load rfl rfl (lv_load rfl) (loads_aggR rfl [_, _, _, _] rfl (fun j u hj => (hc2 j u hj).frame)) ?_
        refine L_alloc (c := [_, _, _, _]) rfl rfl rfl (fun b13 => ?_)
        first | refine L_stA rfl (vs := [_, _, _, _]) rfl rfl rfl rfl (c' := [_, _, _, _]) rfl rfl ?_ | refine L_st rfl rfl rfl (c' := [_, _, _, _]) rfl rfl rfl rfl ?_
        refine holdL_nil ?_
        repeat refine hold_seq ?_
        refine hold_norm (fun g' L' => ∃ b, b = eldL (l.take (i + 1)) k ∧ Sub g' [(0, .slice (some ⟨b2, o2, none⟩) l.length vc), (2, .slice ua fixed.length uc), (4, .pointer (some ⟨b4, 0, none⟩)), (9, .int .i64 e), (10, .bool wt), (11, .bool b), (12, .int .i64 i), (13, .pointer (some ⟨b13, 0, none⟩))] ∧
          ∃ R', L' = (pt b4 (.cells [.int .i64 k.block, .int .i64 k.txn, .int .i64 k.age, .bool k.write].toArray 24 (0, 0)) + pt b13 (.cells [.int .i64 x.block, .int .i64 x.txn, .int .i64 x.age, .bool x.write].toArray 24 (0, 0)) + fr) + R') ?_ ?_
        · cases el
          · repeat (first | refine hold_region_lit ?_ | refine holdL_nil ?_ | refine L_of rfl rfl rfl ?_ | refine L_skip rfl rfl ?_)
            exact ⟨false, by rw [hen]; rfl, (by repeat (first | exact sub_nil _ | refine sub_cons rfl ?_)), _, FrameI.out⟩
          · repeat (first | refine hold_region_lit ?_ | refine L_of rfl rfl rfl ?_ | refine L_field rfl rfl rfl rfl rfl ?_ | refine L_ld rfl rfl rfl rfl rfl ?_)
            refine L_dec rfl rfl (pv_eql rfl rfl) (fun n4 => ?_) (fun n4 => ?_)
            · repeat (first | refine holdL_nil ?_ | refine L_of rfl rfl rfl ?_ | refine L_skip rfl rfl ?_)
              exact ⟨true, by rw [hen, decide_eq_true n4]; rfl, (by repeat (first | exact sub_nil _ | refine sub_cons rfl ?_)), _, FrameI.out⟩
            · repeat (first | refine L_of rfl rfl rfl ?_ | refine L_ldA rfl (vs := [_, _, _, _]) rfl rfl rfl rfl rfl ?_)
              refine L_call rfl rfl (cv_fun rfl rfl rfl) (held2 x) ?_
              rintro _ _ ⟨rfl, rfl⟩
              repeat (first | refine holdL_nil ?_ | refine L_of rfl rfl rfl ?_)
              exact ⟨elderL k x, by rw [hen, decide_eq_false n4]; simp, (by repeat (first | exact sub_nil _ | refine sub_cons rfl ?_)), _, FrameI.out⟩
        · rintro g' _ ⟨b, hb, hsub, R', rfl⟩
          refine hold_env hsub ?_
          clear hsub g' hen R
          subst hb
          repeat refine hold_seq ?_
          refine hold_norm (fun g' L' => ∃ b, b = busyL (l.take (i + 1)) k fixed ∧ Sub g' [(0, .slice (some ⟨b2, o2, none⟩) l.length vc), (2, .slice ua fixed.length uc), (4, .pointer (some ⟨b4, 0, none⟩)), (9, .int .i64 e), (10, .bool b), (11, .bool (eldL (l.take (i + 1)) k)), (12, .int .i64 i)] ∧
            ∃ R', L' = (pt b4 (.cells [.int .i64 k.block, .int .i64 k.txn, .int .i64 k.age, .bool k.write].toArray 24 (0, 0)) + fr) + R') ?_ ?_
          · cases wt
            · have hno : clashL x k = false → busyL (l.take (i + 1)) k fixed = false := fun h => by rw [hbn, h]; rfl
              repeat (first | refine hold_region_lit ?_ | refine L_of rfl rfl rfl ?_ | refine L_field rfl rfl rfl rfl rfl ?_ | refine L_ld rfl rfl rfl rfl rfl ?_)
              refine L_dec rfl rfl (pv_eql rfl rfl) (fun n4 => ?_) (fun n4 => ?_)
              · repeat (first | refine L_of rfl rfl rfl ?_ | refine L_field rfl rfl rfl rfl rfl ?_ | refine L_ld rfl rfl rfl rfl rfl ?_)
                refine L_dec rfl rfl (pv_neq rfl rfl) (fun n5 => ?_) (fun n5 => ?_)
                · have hyes : (x.write || k.write) = true → busyL (l.take (i + 1)) k fixed = (decide (x.txn ∈ fixed) || elderL x k) := fun h => by
                    rw [hbn]; unfold clashL; rw [decide_eq_true n4, decide_eq_true n5, h]; simp
                  have hno2 : (x.write || k.write) = false → busyL (l.take (i + 1)) k fixed = false := fun h => hno (by unfold clashL; rw [h]; simp)
                  clear hno
                  obtain ⟨xb, xt, xa, xw⟩ := x
                  obtain ⟨kb, kt, ka, kw⟩ := k
                  simp only at hyes hno2
                  cases xw
                  · repeat (first | refine L_of rfl rfl rfl ?_ | refine L_field rfl rfl rfl rfl rfl ?_ | refine L_ld rfl rfl rfl rfl rfl ?_)
                    cases kw
                    · repeat (first | refine holdL_nil ?_ | refine L_of rfl rfl rfl ?_ | refine L_skip rfl rfl ?_)
                      exact ⟨false, (hno2 rfl).symm, (by repeat (first | exact sub_nil _ | refine sub_cons rfl ?_)), _, FrameI.out⟩
                    · repeat (first | refine L_of rfl rfl rfl ?_ | refine L_field rfl rfl rfl rfl rfl ?_ | refine L_ld rfl rfl rfl rfl rfl ?_)
                      refine L_call rfl rfl (cv_fun rfl rfl rfl) (hin xt hu (by omega)) ?_
                      rintro _ _ ⟨rfl, rfl⟩
                      generalize decide (xt ∈ fixed) = dm at hyes ⊢
                      cases dm
                      · repeat (first | refine L_of rfl rfl rfl ?_ | refine L_ldA rfl (vs := [_, _, _, _]) rfl rfl rfl rfl rfl ?_)
                        refine L_call rfl rfl (cv_fun rfl rfl rfl) (held ⟨xb, xt, xa, false⟩) ?_
                        rintro _ _ ⟨rfl, rfl⟩
                        repeat (first | refine holdL_nil ?_ | refine L_of rfl rfl rfl ?_)
                        exact ⟨_, (hyes rfl).symm, (by repeat (first | exact sub_nil _ | refine sub_cons rfl ?_)), _, FrameI.out⟩
                      · repeat (first | refine holdL_nil ?_ | refine L_of rfl rfl rfl ?_ | refine L_skip rfl rfl ?_)
                        exact ⟨true, (hyes rfl).symm, (by repeat (first | exact sub_nil _ | refine sub_cons rfl ?_)), _, FrameI.out⟩
                  · repeat (first | refine L_of rfl rfl rfl ?_ | refine L_field rfl rfl rfl rfl rfl ?_ | refine L_ld rfl rfl rfl rfl rfl ?_ | refine L_skip rfl rfl ?_)
                    refine L_call rfl rfl (cv_fun rfl rfl rfl) (hin xt hu (by omega)) ?_
                    rintro _ _ ⟨rfl, rfl⟩
                    generalize decide (xt ∈ fixed) = dm at hyes ⊢
                    cases dm
                    · repeat (first | refine L_of rfl rfl rfl ?_ | refine L_ldA rfl (vs := [_, _, _, _]) rfl rfl rfl rfl rfl ?_)
                      refine L_call rfl rfl (cv_fun rfl rfl rfl) (held ⟨xb, xt, xa, true⟩) ?_
                      rintro _ _ ⟨rfl, rfl⟩
                      repeat (first | refine holdL_nil ?_ | refine L_of rfl rfl rfl ?_)
                      exact ⟨_, (hyes rfl).symm, (by repeat (first | exact sub_nil _ | refine sub_cons rfl ?_)), _, FrameI.out⟩
                    · repeat (first | refine holdL_nil ?_ | refine L_of rfl rfl rfl ?_ | refine L_skip rfl rfl ?_)
                      exact ⟨true, (hyes rfl).symm, (by repeat (first | exact sub_nil _ | refine sub_cons rfl ?_)), _, FrameI.out⟩
                · repeat (first | refine holdL_nil ?_ | refine L_of rfl rfl rfl ?_ | refine L_skip rfl rfl ?_)
                  exact ⟨false, (hno (by unfold clashL; rw [decide_eq_false n5]; simp)).symm, (by repeat (first | exact sub_nil _ | refine sub_cons rfl ?_)), _, FrameI.out⟩
              · repeat (first | refine holdL_nil ?_ | refine L_of rfl rfl rfl ?_ | refine L_skip rfl rfl ?_)
                exact ⟨false, (hno (by unfold clashL; rw [decide_eq_false n4]; simp)).symm, (by repeat (first | exact sub_nil _ | refine sub_cons rfl ?_)), _, FrameI.out⟩
            · repeat (first | refine hold_region_lit ?_ | refine holdL_nil ?_ | refine L_of rfl rfl rfl ?_ | refine L_skip rfl rfl ?_)
              exact ⟨true, by rw [hbn]; rfl, (by repeat (first | exact sub_nil _ | refine sub_cons rfl ?_)), _, FrameI.out⟩
          · rintro g' _ ⟨b, hb, hsub, R', rfl⟩
            refine hold_env hsub ?_
            clear hsub g' hbn
            subst hb
            repeat (first | refine hold_region_lit ?_ | refine holdL_nil ?_ | refine L_of rfl rfl rfl ?_ | refine L_add rfl rfl (by omega) (by omega) rfl rfl ?_)
            exact ⟨l.length - (i + 1), _, by omega, (by repeat (first | exact sub_nil _ | refine sub_cons rfl ?_)), i + 1, _, by omega, rfl, rfl, FrameI.out⟩
      · rw [List.take_of_length_le (by omega)]
        repeat (first | refine hold_seq ?_ | refine hold_exit ?_ | refine hold_region_lit ?_ | refine holdL_nil ?_ | refine L_of rfl rfl rfl ?_ | refine hold_cond_f rfl ?_)
        by_cases he : e = 11
        · refine L_yes rfl rfl (pv_eql rfl rfl) he ?_
          rw [take_busy ht he]
          repeat (first | refine hold_seq ?_ | refine hold_region_lit ?_ | refine holdL_nil ?_ | refine L_of rfl rfl rfl ?_ | refine hold_skip ?_ | refine hold_cond_f rfl ?_ | refine L_ldA rfl (vs := [_, _, _, _]) rfl rfl rfl rfl rfl ?_)
          refine L_call rfl rfl (cv_fun rfl rfl rfl) (htake0 (by omega) (by simp)) ?_
          rintro _ _ ⟨v3, v4, f, a', w', ha', hw', rfl, hla', hwa', ht2, rfl⟩
          cases hel : eldL l k
          · repeat (first | refine hold_seq ?_ | refine hold_region_lit ?_ | refine holdL_nil ?_ | refine L_of rfl rfl rfl ?_ | refine L_skip rfl rfl ?_)
            refine L_call rfl rfl (cv_fun rfl rfl rfl) (works20_spec w0) ?_
            rintro _ _ ⟨rfl, rfl⟩
            repeat (first | refine holdL_nil ?_ | refine L_of rfl rfl rfl ?_ | refine hold_ret ?_)
            exact ⟨[_], 0, _, ⟨rfl, trivial⟩, ⟨rfl, rfl⟩, FrameI.out⟩
          · have hne := eldest_calm ht2 hel
            repeat (first | refine hold_seq ?_ | refine hold_region_lit ?_ | refine holdL_nil ?_ | refine L_of rfl rfl rfl ?_)
            refine L_yes rfl rfl (pv_neq rfl rfl) (by simpa using hne) ?_
            repeat (refine L_of rfl rfl rfl ?_)
            refine L_call rfl rfl (cv_fun rfl rfl rfl) (works20_spec w0) ?_
            rintro _ _ ⟨rfl, rfl⟩
            repeat (first | refine holdL_nil ?_ | refine L_of rfl rfl rfl ?_ | refine hold_ret ?_)
            exact ⟨[_], 0, _, ⟨rfl, trivial⟩, ⟨rfl, rfl⟩, FrameI.out⟩
        · refine L_no rfl rfl (pv_eql rfl rfl) he ?_
          repeat (first | refine hold_seq ?_ | refine hold_region_lit ?_ | refine holdL_nil ?_ | refine L_of rfl rfl rfl ?_ | refine L_skip rfl rfl ?_ | refine hold_skip ?_ | refine hold_cond_f rfl ?_ | refine L_ldA rfl (vs := [_, _, _, _]) rfl rfl rfl rfl rfl ?_)
          refine L_call rfl rfl (cv_fun rfl rfl rfl) (htake0 (by omega) (by simp)) ?_
          rintro _ _ ⟨v3, v4, f, a', w', ha', hw', rfl, hla', hwa', ht2, rfl⟩
          cases hel : eldL l k
          · repeat (first | refine hold_seq ?_ | refine hold_region_lit ?_ | refine holdL_nil ?_ | refine L_of rfl rfl rfl ?_ | refine L_skip rfl rfl ?_)
            refine L_call rfl rfl (cv_fun rfl rfl rfl) (works20_spec w0) ?_
            rintro _ _ ⟨rfl, rfl⟩
            repeat (first | refine holdL_nil ?_ | refine L_of rfl rfl rfl ?_ | refine hold_ret ?_)
            exact ⟨[_], 0, _, ⟨rfl, trivial⟩, ⟨rfl, rfl⟩, FrameI.out⟩
          · have hne := eldest_calm ht2 hel
            repeat (first | refine hold_seq ?_ | refine hold_region_lit ?_ | refine holdL_nil ?_ | refine L_of rfl rfl rfl ?_)
            refine L_yes rfl rfl (pv_neq rfl rfl) (by simpa using hne) ?_
            repeat (refine L_of rfl rfl rfl ?_)
            refine L_call rfl rfl (cv_fun rfl rfl rfl) (works20_spec w0) ?_
            rintro _ _ ⟨rfl, rfl⟩
            repeat (first | refine holdL_nil ?_ | refine L_of rfl rfl rfl ?_ | refine hold_ret ?_)
            exact ⟨[_], 0, _, ⟨rfl, trivial⟩, ⟨rfl, rfl⟩, FrameI.out⟩
end Sl
end Go.Proofs.Ytdbmmnpnhpiecaa
