/-
  The document's Take.
-/
import Derived.Test.YtdbmmnpnhpiecaaLkM
namespace Go.Proofs.Ytdbmmnpnhpiecaa
open Go Go.RowKit
namespace Sl
set_option linter.unusedVariables false
set_option linter.unusedSimpArgs false
set_option maxHeartbeats 4000000
set_option maxRecDepth 4000
attribute [local irreducible] Hold HoldL HoldW
theorem withoutL_snoc (l : List Lk) (ts : List Int) (t : Int) : withoutL (withoutL l ts) [t] = withoutL l (ts ++ [t]) := by
  unfold withoutL
  rw [List.filter_filter]
  congr 1
  funext x
  by_cases h1 : x.txn ∈ ts <;> by_cases h2 : x.txn = t <;> simp [h1, h2]
theorem has_any (l : List Lk) (k : Lk) : hasL l k.txn k.block false = l.any (sameSpot k) := by
  unfold hasL
  congr 1
  funext x
  simp [hasP, sameSpot]
theorem insF_length (k : Lk) : ∀ l : List Lk, (insF k l).length = l.length + 1
  | [] => rfl
  | x :: l => by unfold insF; split <;> simp [insF_length k l]
theorem refTake_spec (w0 : World) (X : Hp) (v u : Value) (l : List Lk) (k : Lk) (fixed : List Int) (hv : RdRow w0 X 4 v (encL l)) (hu : RdRow w0 X 1 u (enc1 fixed)) (hl : l.length ≤ 1000) (hf : fixed.length ≤ 1000000) :
    Spec Try.prog w0 43 [v, aggL k, u] X (fun r h' => ∃ va vw e a w ha hw, r = .tuple #[va, vw, .int .i64 e] ∧ locksAt a va ha ∧ isRow 3 1 (enc1 w) vw hw ∧ (a, w, e) = takeG (woundL l k) l k fixed ∧ X + (ha + hw) = h') := by
  have hhas := refHas20_spec w0 X v l k.txn k.block k.write hv (by omega)
  have hcopy := copyLocks_spec w0 X v l hv (by omega)
  have hin := fun p => in10_spec w0 X u fixed p hu (by omega)
  have hclash := fun x => refClash_spec w0 x k
  have helder := fun x => refElder_spec w0 x k
  have hwrites := fun X v l hv hl => writes_spec w0 X v l k hv hl
  have hput := fun X v l hv hl => put_spec w0 X v l k hv hl
  have hwl := woundL_le l k
  obtain ⟨a, c, rfl, ha⟩ := id hv
  obtain ⟨a2, c2, rfl⟩ := hu.shape
  rw [encL_length] at *
  rw [enc1_length] at *
  unfold aggL at hclash helder hwrites hput ⊢
  refine spec_of_hold_d Try.func43 rfl Try.ntmps43 Try.results43 rfl fun fr => ?_
  repeat (first | refine hold_seq ?_ | refine hold_region_lit ?_)
  refine L_box rfl (c := [_, _, _, _]) rfl rfl rfl (fun b4 => ?_)
  repeat (first | refine hold_seq ?_ | refine hold_region_lit ?_ | refine holdL_nil ?_ | refine L_of rfl rfl rfl ?_ | refine L_field rfl rfl rfl rfl rfl ?_ | refine L_ld rfl rfl rfl rfl rfl ?_)
  refine L_call rfl rfl (cv_fun rfl rfl rfl) hhas ?_
  rintro _ _ ⟨rfl, rfl⟩
  cases h1 : hasL l k.txn k.block k.write
  · repeat (first | refine hold_seq ?_ | refine hold_block ?_ | refine hold_region_lit ?_ | refine holdL_nil ?_ | refine L_of rfl rfl rfl ?_ | refine hold_skip ?_ | refine hold_cond_f rfl ?_)
    refine hold_loop (fun m g L => ∃ (i : Nat) (vw : Value) (o : List Int) (hw R : Hp), i ≤ l.length ∧ m = l.length - i ∧ g = [(0, .slice a l.length c), (2, .slice a2 fixed.length c2), (4, .pointer (some ⟨b4, 0, none⟩)), (9, vw), (10, .int .i64 i)] ∧
        isRow 3 1 (enc1 o) vw hw ∧ o.Pairwise (· < ·) ∧ (∀ x, x ∈ o ↔ x ∈ woundsL (l.take i) k) ∧ o.length ≤ i ∧ busyL (l.take i) k fixed = false ∧
        L = X + pt b4 (.cells [.int .i64 k.block, .int .i64 k.txn, .int .i64 k.age, .bool k.write].toArray 24 (0, 0)) + hw + fr + R) _ _
      ⟨0, .slice none 0 0, [], 0, 0, by omega, rfl, rfl, isRow_empty _ _ _, by simp, by simp [woundsL], by simp, rfl, by simp only [hadd_zero]; first | rfl | ac_rfl⟩ (by repeat (first | exact sub_nil _ | refine sub_cons rfl ?_)) ?_
    rintro m g L ⟨i, vw, o, hw, R, hi, rfl, rfl, hrw, hso, hmo, hlo, hnb, rfl⟩
    repeat (first | refine hold_seq ?_ | refine hold_region_lit ?_ | refine L_of rfl rfl rfl ?_ | refine L_len rfl rfl rfl ?_)
    refine L_dec rfl rfl (pv_lss rfl rfl) (fun h2 => ?_) (fun h2 => ?_)
    · have hx : i < l.length := by omega
      obtain ⟨b2, o2, rfl, hc2⟩ := ha.2 i _ (encL_at hx)
      have htk : l.take (i + 1) = l.take i ++ [l[i]] := List.take_succ_eq_append_getElem hx
      have hwn : woundsL (l.take (i + 1)) k = woundsL (l.take i) k ++ (if clashL l[i] k = true then [l[i].txn] else []) := by
        unfold woundsL
        rw [htk, List.filter_append, List.map_append]
        congr 1
        by_cases hc : clashL l[i] k = true <;> simp [hc]
      have hbn : busyL (l.take (i + 1)) k fixed = (clashL l[i] k && (decide (l[i].txn ∈ fixed) || elderL l[i] k)) := by
        unfold busyL at hnb ⊢
        rw [htk, List.any_append, hnb]; simp
      repeat (first | refine hold_seq ?_ | refine hold_block ?_ | refine holdL_nil ?_ | refine hold_skip ?_ | refine hold_cond_t rfl ?_)
      refine hold_draw [5] [0, 1, 2, 3, 4, 5, 6] (by kernel_rfl) rfl (by kernel_rfl) (by kernel_rfl) ?_
      repeat (refine W_of rfl rfl rfl rfl rfl ?_)
      refine W_pure rfl rfl rfl rfl (pv_indexAddr rfl rfl hx) ?_
      refine W_load rfl rfl rfl rfl (lv_load rfl) (loads_aggR rfl [_, _, _, _] rfl (fun j u hj => (hc2 j u hj).frame)) ?_
      repeat (refine W_load rfl rfl rfl rfl (lv_load rfl) (loads_part (vs := [_, _, _, _]) rfl rfl rfl) ?_)
      refine W_call rfl rfl rfl rfl (cv_fun rfl rfl rfl) (hclash l[i]) (.drop (by kernel_rfl) (.drop (by kernel_rfl) .nil)) ?_
      rintro _ _ ⟨rfl, rfl⟩
      refine ⟨trivial, ?_⟩
      cases hcl : clashL l[i] k
      · rw [hcl] at hwn hbn
        simp only [Bool.false_eq_true, if_false, List.append_nil, Bool.false_and] at hwn hbn
        repeat (first | refine W_nil ?_ | refine W_of rfl rfl rfl rfl rfl ?_)
        repeat (first | refine hold_exit ?_ | refine hold_region_lit ?_ | refine holdL_nil ?_ | refine L_of rfl rfl rfl ?_ | refine hold_cond_t rfl ?_ | refine L_add rfl rfl (by omega) (by omega) rfl rfl ?_)
        exact ⟨l.length - (i + 1), _, by omega, (by repeat (first | exact sub_nil _ | refine sub_cons rfl ?_)), i + 1, vw, o, hw, _, by omega, rfl, rfl, hrw, hso, by rw [hwn]; exact hmo, by omega, hbn, FrameI.out⟩
      · rw [hcl] at hwn hbn
        simp only [if_true, Bool.true_and] at hwn hbn
        have hbusy : busyL (l.take (i + 1)) k fixed = true → (l, ([] : List Int), (11 : Int)) = takeG (woundL l k) l k fixed := by
          intro hb
          have : busyL l k fixed = true := by
            unfold busyL at hb ⊢
            obtain ⟨x, hx1, hx2⟩ := List.any_eq_true.1 hb
            exact List.any_eq_true.2 ⟨x, List.mem_of_mem_take hx1, hx2⟩
          unfold takeG
          rw [if_neg (by rw [h1]; simp), if_pos this]
        repeat (first | refine W_nil ?_ | refine W_of rfl rfl rfl rfl rfl ?_)
        repeat (first | refine hold_seq ?_ | refine hold_skip ?_ | refine hold_cond_f rfl ?_)
        refine hold_draw [6, 13] [0, 1, 2, 3, 4, 5, 6, 7, 8, 9, 10, 11, 12, 13, 14] (by kernel_rfl) rfl (by kernel_rfl) (by kernel_rfl) ?_
        repeat (refine W_of rfl rfl rfl rfl rfl ?_)
        refine W_pure rfl rfl rfl rfl (pv_indexAddr rfl rfl hx) ?_
        repeat (refine W_pure rfl rfl rfl rfl (pv_fieldAddr rfl rfl rfl) ?_)
        refine W_load rfl rfl rfl rfl (lv_load rfl) (loads_scalar rfl ((hc2 1 _ rfl).frame)) ?_
        refine W_call rfl rfl rfl rfl (cv_fun rfl rfl rfl) (hin l[i].txn) (.drop (by kernel_rfl) .nil) ?_
        rintro _ _ ⟨rfl, rfl⟩
        refine ⟨trivial, ?_⟩
        by_cases hm : l[i].txn ∈ fixed
        · rw [decide_eq_true hm]
          repeat (first | refine W_nil ?_ | refine W_of rfl rfl rfl rfl rfl ?_ | refine W_skip rfl rfl rfl rfl ?_ | refine W_not rfl rfl rfl rfl ?_)
          repeat (first | refine hold_seq ?_ | refine hold_region_lit ?_ | refine L_of rfl rfl rfl ?_ | refine hold_cond_t rfl ?_)
          refine L_call rfl rfl (cv_fun rfl rfl rfl) hcopy ?_
          rintro va _ ⟨hh, hla, rfl⟩
          repeat (first | refine holdL_nil ?_ | refine L_of rfl rfl rfl ?_ | refine hold_ret ?_)
          exact ⟨[_, _, _], X + hh, _, ⟨rfl, rfl, rfl, trivial⟩, ⟨va, _, 11, l, [], hh, 0, rfl, hla, isRow_empty _ _ _, hbusy (by rw [hbn]; simp [hm]), by rw [hadd_zero]⟩, FrameI.out⟩
        · rw [decide_eq_false hm]
          repeat (refine W_of rfl rfl rfl rfl rfl ?_)
          refine W_pure rfl rfl rfl rfl (pv_indexAddr rfl rfl hx) ?_
          refine W_load rfl rfl rfl rfl (lv_load rfl) (loads_aggR rfl [_, _, _, _] rfl (fun j u hj => (hc2 j u hj).frame)) ?_
          repeat (refine W_load rfl rfl rfl rfl (lv_load rfl) (loads_part (vs := [_, _, _, _]) rfl rfl rfl) ?_)
          refine W_call rfl rfl rfl rfl (cv_fun rfl rfl rfl) (helder l[i]) (.drop (by kernel_rfl) (.drop (by kernel_rfl) .nil)) ?_
          rintro _ _ ⟨rfl, rfl⟩
          refine ⟨trivial, ?_⟩
          cases hel : elderL l[i] k
          · repeat (first | refine W_nil ?_ | refine W_of rfl rfl rfl rfl rfl ?_)
            repeat (first | refine hold_region_lit ?_ | refine L_of rfl rfl rfl ?_ | refine hold_skip ?_ | refine hold_cond_f rfl ?_)
            refine L_pure rfl rfl (pv_indexAddr rfl rfl hx) ?_
            repeat (refine L_field rfl rfl rfl rfl rfl ?_)
            refine L_load rfl rfl (lv_load rfl) (loads_scalar rfl ((hc2 1 _ rfl).frame)) ?_
            refine L_call rfl rfl (cv_fun rfl rfl rfl) (with10_spec w0 hw vw o l[i].txn (hrw.rd (R := 0)) hso (by omega)) ?_
            rintro vw2 _ ⟨o2', hw2, hrw2, hso2, hmo2, hlo2, rfl⟩
            repeat (first | refine hold_region_lit ?_ | refine holdL_nil ?_ | refine L_of rfl rfl rfl ?_ | refine L_add rfl rfl (by omega) (by omega) rfl rfl ?_)
            refine ⟨l.length - (i + 1), _, by omega, (by repeat (first | exact sub_nil _ | refine sub_cons rfl ?_)), i + 1, vw2, o2', hw2, _, by omega, rfl, rfl, hrw2, hso2, fun x => ?_, by omega, by rw [hbn]; simp [hm, hel], FrameI.out⟩
            rw [hmo2, hmo, hwn, List.mem_append, List.mem_singleton]
            exact or_comm
          · repeat (first | refine W_nil ?_ | refine W_of rfl rfl rfl rfl rfl ?_)
            repeat (first | refine hold_seq ?_ | refine hold_region_lit ?_ | refine L_of rfl rfl rfl ?_ | refine hold_cond_t rfl ?_)
            refine L_call rfl rfl (cv_fun rfl rfl rfl) hcopy ?_
            rintro va _ ⟨hh, hla, rfl⟩
            repeat (first | refine holdL_nil ?_ | refine L_of rfl rfl rfl ?_ | refine hold_ret ?_)
            exact ⟨[_, _, _], X + hh, _, ⟨rfl, rfl, rfl, trivial⟩, ⟨va, _, 11, l, [], hh, 0, rfl, hla, isRow_empty _ _ _, hbusy (by rw [hbn]; simp [hel]), by rw [hadd_zero]⟩, FrameI.out⟩
    · rw [List.take_of_length_le (by omega)] at hmo hnb
      have e : o = woundL l k := sorted_ext hso (lt_compI (sorted_sortI _)) fun x => by rw [hmo]; unfold woundL; rw [mem_compI, mem_sortI]
      subst e
      obtain ⟨a9, c9, rfl⟩ := hrw.shape
      rw [enc1_length] at *
      repeat (first | refine hold_seq ?_ | refine hold_exit ?_ | refine hold_region_lit ?_ | refine holdL_nil ?_ | refine L_of rfl rfl rfl ?_ | refine hold_cond_f rfl ?_)
      refine L_call rfl rfl (cv_fun rfl rfl rfl) hcopy ?_
      rintro v11 _ ⟨h11, hl11, rfl⟩
      repeat (first | refine hold_seq ?_ | refine hold_block ?_ | refine hold_region_lit ?_ | refine holdL_nil ?_ | refine L_of rfl rfl rfl ?_)
      refine hold_loop (fun m g L => ∃ (j : Nat) (vl : Value) (hl' R : Hp), j ≤ (woundL l k).length ∧ m = (woundL l k).length - j ∧ g = [(0, .slice a l.length c), (4, .pointer (some ⟨b4, 0, none⟩)), (9, .slice a9 (woundL l k).length c9), (11, vl), (12, .int .i64 j)] ∧
          locksAt (withoutL l ((woundL l k).take j)) vl hl' ∧ L = X + pt b4 (.cells [.int .i64 k.block, .int .i64 k.txn, .int .i64 k.age, .bool k.write].toArray 24 (0, 0)) + hw + hl' + fr + R) _ _
        ⟨0, v11, h11, R, by omega, rfl, rfl, by rw [List.take_zero, withoutL_nil]; exact hl11, by ac_rfl⟩ (by repeat (first | exact sub_nil _ | refine sub_cons rfl ?_)) ?_
      clear hi R
      rintro m g L ⟨j, vl, hl', R, hj, rfl, rfl, hla, rfl⟩
      have hwle := List.length_filter_le (fun x : Lk => !decide (x.txn ∈ (woundL l k).take j)) l
      change (withoutL l ((woundL l k).take j)).length ≤ l.length at hwle
      repeat (first | refine hold_seq ?_ | refine hold_region_lit ?_ | refine L_of rfl rfl rfl ?_ | refine L_len rfl rfl rfl ?_)
      refine L_dec rfl rfl (pv_lss rfl rfl) (fun h3 => ?_) (fun h3 => ?_)
      · have hx : j < (woundL l k).length := by omega
        obtain ⟨gb, cap, spare, e1, rfl, hes, hcap, hmax, hsp⟩ := hrw.nonempty (by intro e; rw [← List.length_eq_zero_iff, enc1_length] at e; omega)
        simp only [Value.slice.injEq] at e1
        obtain ⟨rfl, -, rfl⟩ := e1
        repeat (first | refine hold_seq ?_ | refine hold_block ?_ | refine hold_region_lit ?_ | refine holdL_nil ?_ | refine L_of rfl rfl rfl ?_ | refine hold_skip ?_ | refine hold_cond_t rfl ?_)
        refine L_pure rfl rfl (pv_indexAddr rfl rfl hx) ?_
        refine L_load rfl rfl (lv_load rfl) (loads_row1 (o := 0) rfl hes (enc1_at hx) rfl) ?_
        refine L_call rfl rfl (cv_fun rfl rfl rfl) (refFree20_spec w0 hl' vl _ ((woundL l k).getD j 0) (hla.rd (R := 0)) (by omega)) ?_
        rintro vl2 _ ⟨hl2, hla2, rfl⟩
        rw [withoutL_snoc, show (woundL l k).take j ++ [(woundL l k).getD j 0] = (woundL l k).take (j + 1) by rw [List.take_succ_eq_append_getElem hx]; simp [List.getD, hx]] at hla2
        repeat (first | refine hold_region_lit ?_ | refine holdL_nil ?_ | refine L_of rfl rfl rfl ?_ | refine L_add rfl rfl (by omega) (by omega) rfl rfl ?_)
        exact ⟨(woundL l k).length - (j + 1), _, by omega, (by repeat (first | exact sub_nil _ | refine sub_cons rfl ?_)), j + 1, vl2, hl2, _, by omega, rfl, rfl, hla2, FrameI.out⟩
      · rw [List.take_of_length_le (by omega)] at hla hwle
        obtain ⟨a11, c11, rfl⟩ := hla.shape
        rw [encL_length] at *
        repeat (first | refine hold_seq ?_ | refine hold_exit ?_ | refine hold_region_lit ?_ | refine holdL_nil ?_ | refine L_of rfl rfl rfl ?_ | refine L_field rfl rfl rfl rfl rfl ?_ | refine L_ld rfl rfl rfl rfl rfl ?_ | refine hold_cond_f rfl ?_)
        refine L_call rfl rfl (cv_fun rfl rfl rfl) (refHas20_spec w0 hl' _ (withoutL l (woundL l k)) k.txn k.block false (hla.rd (R := 0)) (by omega)) ?_
        rintro _ _ ⟨rfl, rfl⟩
        have hok : ¬ (64 ≤ (withoutL l (woundL l k)).length ∧ hasL (withoutL l (woundL l k)) k.txn k.block false = false) → (laidF (withoutL l (woundL l k)) k, woundL l k, (0 : Int)) = takeG (woundL l k) l k fixed := by
          intro hn
          unfold takeG
          rw [if_neg (by rw [h1]; simp), if_neg (by rw [hnb]; simp), if_neg hn]
        have hany := has_any (withoutL l (woundL l k)) k
        cases h6 : hasL (withoutL l (woundL l k)) k.txn k.block false
        · have elf : laidF (withoutL l (woundL l k)) k = insF k (withoutL l (woundL l k)) := by unfold laidF; rw [← hany, h6]; rfl
          repeat (first | refine hold_seq ?_ | refine hold_region_lit ?_ | refine holdL_nil ?_ | refine L_of rfl rfl rfl ?_ | refine L_len rfl rfl rfl ?_ | refine hold_skip ?_ | refine hold_cond_f rfl ?_)
          refine L_dec rfl rfl (pv_geq rfl rfl) (fun h5 => ?_) (fun h5 => ?_)
          · repeat (first | refine hold_seq ?_ | refine hold_region_lit ?_ | refine holdL_nil ?_ | refine L_of rfl rfl rfl ?_ | refine hold_cond_t rfl ?_)
            refine L_call rfl rfl (cv_fun rfl rfl rfl) hcopy ?_
            rintro va _ ⟨hh, hlb, rfl⟩
            repeat (first | refine holdL_nil ?_ | refine L_of rfl rfl rfl ?_ | refine hold_ret ?_)
            exact ⟨[_, _, _], X + hh, _, ⟨rfl, rfl, rfl, trivial⟩, ⟨va, _, 8, l, [], hh, 0, rfl, hlb, isRow_empty _ _ _, by unfold takeG; rw [if_neg (by rw [h1]; simp), if_neg (by rw [hnb]; simp), if_pos ⟨by omega, h6⟩], by rw [hadd_zero]⟩, FrameI.out⟩
          · repeat (first | refine hold_seq ?_ | refine hold_region_lit ?_ | refine holdL_nil ?_ | refine L_of rfl rfl rfl ?_ | refine hold_skip ?_ | refine hold_cond_f rfl ?_ | refine L_ldA rfl (vs := [_, _, _, _]) rfl rfl rfl rfl rfl ?_)
            refine L_call rfl rfl (cv_fun rfl rfl rfl) (hput hl' _ _ (hla.rd (R := 0)) (by omega)) ?_
            rintro vr _ ⟨hr5, hlr, rfl⟩
            repeat (first | refine holdL_nil ?_ | refine L_of rfl rfl rfl ?_ | refine hold_ret ?_)
            exact ⟨[_, _, _], X + (hr5 + hw), _, ⟨rfl, rfl, rfl, trivial⟩, ⟨_, _, 0, _, woundL l k, hr5, hw, rfl, hlr, hrw, by rw [← elf]; exact hok (fun h => by omega), rfl⟩, FrameI.out⟩
        · have elf : laidF (withoutL l (woundL l k)) k = upF k (withoutL l (woundL l k)) := by unfold laidF; rw [← hany, h6]; rfl
          repeat (first | refine hold_seq ?_ | refine hold_region_lit ?_ | refine holdL_nil ?_ | refine L_of rfl rfl rfl ?_ | refine hold_cond_t rfl ?_ | refine L_ldA rfl (vs := [_, _, _, _]) rfl rfl rfl rfl rfl ?_)
          refine L_call rfl rfl (cv_fun rfl rfl rfl) (hwrites hl' _ _ (hla.rd (R := 0)) (by omega)) ?_
          rintro vr _ ⟨hr5, hlr, rfl⟩
          repeat (first | refine holdL_nil ?_ | refine L_of rfl rfl rfl ?_ | refine hold_ret ?_)
          exact ⟨[_, _, _], X + (hr5 + hw), _, ⟨rfl, rfl, rfl, trivial⟩, ⟨_, _, 0, _, woundL l k, hr5, hw, rfl, hlr, hrw, by rw [← elf]; exact hok (fun h => by rw [h6] at h; exact absurd h.2 (by simp)), rfl⟩, FrameI.out⟩
  · repeat (first | refine hold_seq ?_ | refine hold_region_lit ?_ | refine holdL_nil ?_ | refine L_of rfl rfl rfl ?_ | refine hold_cond_t rfl ?_)
    refine L_call rfl rfl (cv_fun rfl rfl rfl) hcopy ?_
    rintro va _ ⟨hh, hla, rfl⟩
    repeat (first | refine holdL_nil ?_ | refine L_of rfl rfl rfl ?_ | refine hold_ret ?_)
    exact ⟨[_, _, _], X + hh, _, ⟨rfl, rfl, rfl, trivial⟩, ⟨va, _, 0, l, [], hh, 0, rfl, hla, isRow_empty _ _ _, by unfold takeG; rw [if_pos h1], by rw [hadd_zero]⟩, FrameI.out⟩
end Sl
end Go.Proofs.Ytdbmmnpnhpiecaa
