/-
  The law PostRuns: the walk.
-/
import Derived.Test.YtfdimkpanbgffaaPostS
namespace Go.Proofs.Ytfdimkpanbgffaa
open Go Go.RowKit
namespace Sl
set_option linter.unusedVariables false
set_option linter.unusedSimpArgs false
set_option maxRecDepth 4000
set_option maxHeartbeats 4000000
attribute [local irreducible] Hold HoldL HoldW
theorem postRuns_spec (w0 : World) (v : Value) (os : List OpA) (hv : RdOps w0 v os) (hl : os.length ≤ 17592186044416) (hB : ∀ o ∈ os, InB o.data) :
    Spec Try.prog w0 8 [v] 0 (fun r h' => r = .bool true ∧ 0 = h') := by
  have hlong := long_spec w0 v os hv hl
  obtain ⟨es, hrd, hlen, hos⟩ := id hv
  obtain ⟨va, vc, rfl, ha⟩ := id hrd
  rw [hlen] at *
  refine spec_of_hold_d Try.func8 rfl Try.ntmps8 Try.results8 rfl fun fr => ?_
  repeat (first | refine hold_seq ?_ | refine hold_region_lit ?_ | refine holdL_nil ?_ | refine L_of rfl rfl rfl ?_)
  refine L_call rfl rfl (cv_fun rfl rfl rfl) hlong ?_
  rintro _ _ ⟨rfl | ⟨rfl, h400, hsm⟩, rfl⟩
  · repeat (first | refine hold_seq ?_ | refine hold_region_lit ?_ | refine holdL_nil ?_ | refine hold_cond_t rfl ?_)
    refine L_call rfl rfl (cv_fun rfl rfl rfl) (works06_spec w0) ?_
    rintro _ _ ⟨rfl, rfl⟩
    repeat (first | refine holdL_nil ?_ | refine L_of rfl rfl rfl ?_ | refine hold_ret ?_)
    exact ⟨[_], 0, _, ⟨rfl, trivial⟩, ⟨rfl, rfl⟩, FrameI.out⟩
  · repeat (first | refine hold_seq ?_ | refine hold_region_lit ?_ | refine holdL_nil ?_ | refine hold_skip ?_ | refine hold_cond_f rfl ?_)
    refine L_call rfl rfl (cv_fun rfl rfl rfl) (new06_spec w0) ?_
    rintro _ hp0 ⟨bp, rfl, hp0'⟩
    repeat (first | refine hold_seq ?_ | refine hold_region_lit ?_ | refine holdL_nil ?_ | refine L_of rfl rfl rfl ?_ | refine L_build (cells := [_, _, _, _]) rfl rfl rfl rfl ?_)
    refine L_box rfl (c := [_, _, _, _]) rfl rfl rfl (fun br => ?_)
    repeat (first | refine hold_seq ?_ | refine hold_region_lit ?_ | refine holdL_nil ?_ | refine L_of rfl rfl rfl ?_)
    refine L_pure rfl rfl (pv_nil_eq rfl rfl) ?_
    repeat (first | refine hold_seq ?_ | refine hold_block ?_ | refine hold_region_lit ?_ | refine holdL_nil ?_ | refine L_of rfl rfl rfl ?_ | refine hold_skip ?_ | refine hold_cond_f rfl ?_)
    have hq0 := refAt_intro (b := br) (its := []) (cuts := []) (xs := []) (ys := []) (nestAt_intro (R := isPkt) (E := 41) (size := 3) (es := []) (hs := []) (xs := []) (isRow_empty _ _ none) trivial) (isRow_empty 4 1 none) (isRow_empty 3 1 none) (isRow_empty 3 1 none) ⟨rfl, rfl, by simp⟩
    simp only [hsum, hadd_zero] at hq0
    refine hold_loop (fun m g L => ∃ (k : Nat) (s : List Item × Cuts) (hp hq R : Hp), k ≤ os.length ∧ m = os.length - k ∧ g = [(0, .slice va os.length vc), (3, .pointer (some ⟨bp, 0, none⟩)), (4, .pointer (some ⟨br, 0, none⟩)), (5, .int .i64 k)] ∧
        L = hp + hq + fr + R ∧ postAt bp s.1 s.2 hp ∧ refAt06 br s.1 s.2 hq ∧ Good s.1 s.2 ∧ ∀ it ∈ s.1, InB it.data) _ _
      ⟨0, ([], []), hp0, _, 0, by omega, rfl, rfl, FrameI.out, hp0', hq0, good_nil, by simp⟩ (by repeat (first | exact sub_nil _ | refine sub_cons rfl ?_)) ?_
    rintro m g L ⟨k, ⟨its, cuts⟩, hp, hq, R, hk, rfl, rfl, rfl, hpo, hqo, hg, hin⟩
    simp only at hpo hqo hg hin
    repeat (first | refine hold_seq ?_ | refine hold_region_lit ?_ | refine L_of rfl rfl rfl ?_ | refine L_len rfl rfl rfl ?_)
    refine L_dec rfl rfl (pv_lss rfl rfl) (fun h2 => ?_) (fun h2 => ?_)
    · have hx : k < os.length := by omega
      obtain ⟨e, he, vb, rfl, hvb, hdl, hyb⟩ := hos k _ (List.getElem?_eq_getElem hx)
      obtain ⟨b1, o1, rfl, hc1⟩ := ha.2 k _ he
      have hod := hsm _ (List.getElem_mem hx)
      have hoB := hB _ (List.getElem_mem hx)
      generalize os[k] = o at *
      repeat (first | refine hold_seq ?_ | refine hold_block ?_ | refine holdL_nil ?_ | refine hold_skip ?_ | refine hold_cond_t rfl ?_)
      refine hold_draw [6, 10] [0, 1, 2, 3, 4, 5, 6, 7, 8, 9, 11, 12, 13, 14, 15, 10, 16, 17] (by kernel_rfl) rfl (by kernel_rfl) (by kernel_rfl) ?_
      repeat (refine W_of rfl rfl rfl rfl rfl ?_)
      refine W_pure rfl rfl rfl rfl (pv_indexAddr rfl rfl hx) ?_
      refine W_load rfl rfl rfl rfl (lv_load rfl) (loads_aggR rfl [_, _, _, _] rfl (fun j u hj => (hc1 j u hj).frame)) ?_
      refine W_call rfl rfl rfl rfl (cv_fun rfl rfl rfl) (both_spec w0 bp br its cuts hp hq o vb hpo hqo hg hin hvb hod hyb) (Kept.all _) ?_
      rintro _ _ ⟨rfl, ⟨its', cuts'⟩, hp', hq', hst, hpo', hqo', rfl⟩
      have hg' := hst.good hod hg
      have hin' := hst.inB hoB hin
      simp only at hpo' hqo' hg' hin'
      obtain ⟨g1, g2, g3, g4, g5⟩ := id hg'
      obtain ⟨vl, hl0, vt, ht, va2, ha2, vb', hb', xs, ys, hpk, q2, q3, q4, hw, rfl⟩ := id hqo'
      obtain ⟨es2, hs2, h02, hr2, hn2, rfl⟩ := id hpk
      obtain ⟨a5, c5, rfl⟩ := hr2.shape
      have hlen2 : es2.length = its'.length := by have := hn2.length.1; simpa using this
      refine ⟨⟨loads_aggR rfl [_, _, _, _] rfl (fun j u hj => (hc1 j u hj).frame), trivial⟩, ?_⟩
      repeat (first | refine W_of rfl rfl rfl rfl rfl ?_ | refine W_pure rfl rfl rfl rfl (pv_fieldAddr rfl rfl rfl) ?_ | refine W_load rfl rfl rfl rfl (lv_load rfl) (loads_scalar rfl (reads_pt rfl)) ?_ | refine W_pure rfl rfl rfl rfl (pv_len rfl) ?_)
      refine W_call rfl rfl rfl rfl (cv_fun rfl rfl rfl) (len06_spec w0 bp _ _ hp' hpo') (Kept.all _) ?_
      rintro _ _ ⟨rfl, rfl⟩
      refine ⟨⟨loads_scalar rfl (reads_pt rfl), loads_aggR rfl [_, _, _, _] rfl (fun j u hj => (hc1 j u hj).frame), trivial⟩, ?_⟩
      skip
      refine W_no rfl rfl rfl rfl (pv_neq rfl rfl) (by rw [hlen2]; simp) ?_
      repeat (first | refine W_nil ?_ | refine W_of rfl rfl rfl rfl rfl ?_)
      repeat (first | refine hold_seq ?_ | refine hold_region_lit ?_ | refine L_of rfl rfl rfl ?_ | refine hold_skip ?_ | refine hold_cond_f rfl ?_)
      refine L_call rfl rfl (cv_fun rfl rfl rfl) (all_spec w0 bp its' cuts' hp' hpo' g1 (fun it hi => Nat.le_trans (g4 it hi) (by decide))) ?_
      rintro v6 _ ⟨hk6, hpk6, rfl⟩
      repeat (first | refine hold_seq ?_ | refine hold_region_lit ?_ | refine holdL_nil ?_ | refine L_of rfl rfl rfl ?_ | refine L_field rfl rfl rfl rfl rfl ?_ | refine L_ld rfl rfl rfl rfl rfl ?_)
      refine L_call rfl rfl (cv_fun rfl rfl rfl) (samePackets_spec w0 (its'.map Item.pkt) v6 _ hk6 _ hpk6 hpk (by simp; omega) (by intro p hp; obtain ⟨it, hi, rfl⟩ := List.mem_map.1 hp; exact Nat.le_trans (g4 it hi) (by decide))) ?_
      rintro _ _ ⟨rfl, rfl⟩
      repeat (first | refine hold_region_lit ?_ | refine holdL_nil ?_ | refine L_of rfl rfl rfl ?_ | refine hold_skip ?_ | refine hold_cond_f rfl ?_)
      refine L_call rfl rfl (cv_fun rfl rfl rfl) (spoilPackets_spec w0 _ v6 hk6 hpk6 (by simp; omega)) ?_
      rintro r _ rfl
      repeat (first | refine hold_region_lit ?_ | refine holdL_nil ?_ | refine L_of rfl rfl rfl ?_ | refine L_add rfl rfl (by omega) (by omega) rfl rfl ?_)
      exact ⟨os.length - (k + 1), _, by omega, (by repeat (first | exact sub_nil _ | refine sub_cons rfl ?_)), k + 1, (its', cuts'), hp', _, _, by omega, rfl, rfl, FrameI.out, hpo', hqo', hg', hin'⟩
    · obtain ⟨g1, g2, g3, g4, g5⟩ := id hg
      obtain ⟨vl, hl0, vt, ht, va2, ha2, vb', hb', xs, ys, hpk, q2, q3, q4, hw, rfl⟩ := id hqo
      repeat (first | refine hold_seq ?_ | refine hold_exit ?_ | refine holdL_nil ?_ | refine hold_cond_f rfl ?_)
      refine hold_draw [1, 6, 8] [0, 2, 3, 4, 5, 1, 6, 7, 8, 9, 10] (by kernel_rfl) rfl (by kernel_rfl) (by kernel_rfl) ?_
      repeat (first | refine W_of rfl rfl rfl rfl rfl ?_ | refine W_pure rfl rfl rfl rfl (pv_fieldAddr rfl rfl rfl) ?_ | refine W_load rfl rfl rfl rfl (lv_load rfl) (loads_scalar rfl (reads_pt rfl)) ?_)
      refine W_call rfl rfl rfl rfl (cv_fun rfl rfl rfl) (all_spec w0 bp its cuts hp hpo g1 (fun it hi => Nat.le_trans (g4 it hi) (by decide))) (Kept.all _) ?_
      rintro v6 _ ⟨hk6, hpk6, rfl⟩
      refine ⟨(by repeat (first | exact trivial | exact loads_scalar rfl (reads_pt rfl) | exact loads_part rfl rfl rfl | refine ⟨?_, ?_⟩)), ?_⟩
      skip
      refine W_call rfl rfl rfl rfl (cv_fun rfl rfl rfl) (samePackets_spec w0 (its.map Item.pkt) v6 _ hk6 _ hpk6 hpk (by simp; omega) (by intro p hp; obtain ⟨it, hi, rfl⟩ := List.mem_map.1 hp; exact Nat.le_trans (g4 it hi) (by decide))) (Kept.all _) ?_
      rintro _ _ ⟨rfl, rfl⟩
      refine ⟨(by repeat (first | exact trivial | exact loads_scalar rfl (reads_pt rfl) | exact loads_part rfl rfl rfl | refine ⟨?_, ?_⟩)), ?_⟩
      repeat (refine W_of rfl rfl rfl rfl rfl ?_)
      refine W_call rfl rfl rfl rfl (cv_fun rfl rfl rfl) (works06_spec w0) (Kept.all _) ?_
      rintro _ _ ⟨rfl, rfl⟩
      refine ⟨(by repeat (first | exact trivial | exact loads_scalar rfl (reads_pt rfl) | exact loads_part rfl rfl rfl | refine ⟨?_, ?_⟩)), ?_⟩
      repeat (first | refine W_nil ?_ | refine W_of rfl rfl rfl rfl rfl ?_)
      repeat (refine hold_ret ?_)
      exact ⟨[_], 0, _, ⟨rfl, trivial⟩, ⟨rfl, rfl⟩, FrameI.out⟩
end Sl
end Go.Proofs.Ytfdimkpanbgffaa
