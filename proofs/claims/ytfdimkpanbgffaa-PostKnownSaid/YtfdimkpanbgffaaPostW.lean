/-
  The law PostKnown: the walk.
-/
import Derived.Test.YtfdimkpanbgffaaPostV
import Derived.Test.YtfdimkpanbgffaaFree
namespace Go.Proofs.Ytfdimkpanbgffaa
open Go Go.RowKit
namespace Sl
set_option linter.unusedVariables false
set_option linter.unusedSimpArgs false
set_option maxRecDepth 8000
set_option maxHeartbeats 8000000
attribute [local irreducible] Hold HoldL HoldW
def knownN : List Int := [-9223372036854775808, -1, 0, 1, 2, 3, 7, 8, 15, 16, 255, 256, 9223372036854775807]
theorem knownN_le (i : Nat) (h : i < knownN.length) : knownN.getD i 0 ≤ 9223372036854775807 := (by decide : ∀ i : Fin 13, knownN.getD i 0 ≤ 9223372036854775807) ⟨i, h⟩
def knownOps (a c : Int) : List OpA := [⟨0, 1, 2, [7, 1]⟩, ⟨0, 2, 1, [8]⟩, ⟨0, a, c, []⟩, ⟨3, 0, 0, []⟩, ⟨5, a, c, []⟩, ⟨5, c, a, []⟩, ⟨0, c, a, [9]⟩, ⟨0, a, a, [9]⟩, ⟨4, a, c, []⟩, ⟨4, 0, c, []⟩, ⟨4, 0, 3, []⟩, ⟨3, a, 0, []⟩, ⟨4, 3, 2, []⟩, ⟨1, c, 0, []⟩, ⟨6, c, a, []⟩, ⟨2, a, 0, []⟩, ⟨6, 5, a, []⟩, ⟨9, 0, 0, []⟩, ⟨0, c, a, [10]⟩]
def knownRows (a c : Int) (b1 b2 b3 b4 b5 : Nat) : List (List Value) := [[.int .i64 0, .int .i64 1, .int .i64 2, .slice (some ⟨b1, 0, none⟩) 2 2], [.int .i64 0, .int .i64 2, .int .i64 1, .slice (some ⟨b2, 0, none⟩) 1 1], [.int .i64 0, .int .i64 a, .int .i64 c, .slice none 0 0], [.int .i64 3, .int .i64 0, .int .i64 0, .slice none 0 0], [.int .i64 5, .int .i64 a, .int .i64 c, .slice none 0 0], [.int .i64 5, .int .i64 c, .int .i64 a, .slice none 0 0], [.int .i64 0, .int .i64 c, .int .i64 a, .slice (some ⟨b3, 0, none⟩) 1 1], [.int .i64 0, .int .i64 a, .int .i64 a, .slice (some ⟨b4, 0, none⟩) 1 1], [.int .i64 4, .int .i64 a, .int .i64 c, .slice none 0 0], [.int .i64 4, .int .i64 0, .int .i64 c, .slice none 0 0], [.int .i64 4, .int .i64 0, .int .i64 3, .slice none 0 0], [.int .i64 3, .int .i64 a, .int .i64 0, .slice none 0 0], [.int .i64 4, .int .i64 3, .int .i64 2, .slice none 0 0], [.int .i64 1, .int .i64 c, .int .i64 0, .slice none 0 0], [.int .i64 6, .int .i64 c, .int .i64 a, .slice none 0 0], [.int .i64 2, .int .i64 a, .int .i64 0, .slice none 0 0], [.int .i64 6, .int .i64 5, .int .i64 a, .slice none 0 0], [.int .i64 9, .int .i64 0, .int .i64 0, .slice none 0 0], [.int .i64 0, .int .i64 c, .int .i64 a, .slice (some ⟨b5, 0, none⟩) 1 1]]
theorem known_nest (a c : Int) (b1 b2 b3 b4 b5 : Nat) : Nest isOp (knownOps a c) (knownRows a c b1 b2 b3 b4 b5) [bytesAt b1 [7, 1], bytesAt b2 [8], 0, 0, 0, 0, bytesAt b3 [9], bytesAt b4 [9], 0, 0, 0, 0, 0, 0, 0, 0, 0, 0, bytesAt b5 [10]] := ⟨isOp_bytes _ _ _ [7, 1] b1 2 rfl (by simp), isOp_bytes _ _ _ [8] b2 1 rfl (by simp), isOp_nil _ _ _, isOp_nil _ _ _, isOp_nil _ _ _, isOp_nil _ _ _, isOp_bytes _ _ _ [9] b3 1 rfl (by simp), isOp_bytes _ _ _ [9] b4 1 rfl (by simp), isOp_nil _ _ _, isOp_nil _ _ _, isOp_nil _ _ _, isOp_nil _ _ _, isOp_nil _ _ _, isOp_nil _ _ _, isOp_nil _ _ _, isOp_nil _ _ _, isOp_nil _ _ _, isOp_nil _ _ _, isOp_bytes _ _ _ [10] b5 1 rfl (by simp), trivial⟩
theorem known_len (a c : Int) (b1 b2 b3 b4 b5 : Nat) : ∀ x ∈ knownRows a c b1 b2 b3 b4 b5, x.length = 4 := by
  intro x hx
  simp only [knownRows, List.mem_cons, List.not_mem_nil, or_false] at hx
  rcases hx with rfl | rfl | rfl | rfl | rfl | rfl | rfl | rfl | rfl | rfl | rfl | rfl | rfl | rfl | rfl | rfl | rfl | rfl | rfl <;> rfl
theorem known_fine (a c : Int) (ha : a ≤ 9223372036854775807) (hc : c ≤ 9223372036854775807) : ∀ o ∈ knownOps a c, InB o.data ∧ o.data.length ≤ 140737488355328 ∧ o.y ≤ 9223372036854775807 := by
  intro o ho
  simp only [knownOps, List.mem_cons, List.not_mem_nil, or_false] at ho
  rcases ho with rfl | rfl | rfl | rfl | rfl | rfl | rfl | rfl | rfl | rfl | rfl | rfl | rfl | rfl | rfl | rfl | rfl | rfl | rfl <;> exact ⟨by simp [InB], by simp, by first | exact ha | exact hc | simp⟩
theorem known_at (a c : Int) (b b1 b2 b3 b4 b5 : Nat) : opsAt (knownOps a c) (.slice (some ⟨b, 0, none⟩) 19 19)
    (pt b (.cells ((knownRows a c b1 b2 b3 b4 b5).flatten ++ []).toArray 59 (0, 0)) + (bytesAt b1 [7, 1] + bytesAt b2 [8] + bytesAt b3 [9] + bytesAt b4 [9] + bytesAt b5 [10])) := by
  have h := nestAt_intro (isRow_block (E := 59) (b := b) (cap := 19) (spare := []) (known_len a c b1 b2 b3 b4 b5) (by simp [knownRows]) (by unfold maxLen; omega) (by simp [knownRows])) (known_nest a c b1 b2 b3 b4 b5)
  simp only [hsum, hadd_zero, hzero_add, hadd_assoc] at h ⊢
  exact h
theorem EV.mono {P : Program} {w0 : World} {L : Hp} {g : Env} {op : Op} {post post' : Value → Hp → Prop} (h : EV P w0 L g op post) (hp : ∀ v L', post v L' → post' v L') : EV P w0 L g op post' :=
  fun o a w n ho ha hst => let ⟨v, w', L', h1, h2, h3⟩ := h o a w n ho ha hst; ⟨v, w', L', h1, hp _ _ h2, h3⟩
def kA (k x y : Int) (b n : Nat) : Value := .agg [.int .i64 k, .int .i64 x, .int .i64 y, .slice (some ⟨b, 0, none⟩) n n].toArray
def kSlot (j : Nat) : Nat := if j = 109 then 4 else 18 + j
def kDeps (j : Nat) : List Nat := if j = 1 then [0] else if j = 3 then [2] else if j = 41 then [40] else if j = 51 then [50] else if j = 107 then [106] else if j = 108 then [1, 3, 41, 51, 107] else if j = 109 then [108] else []
/-- What the operations that take new memory, and those behind them, yield. -/
def kR (a c : Int) (j : Nat) (xs : List (Value × Hp)) (y : Value × Hp) : Prop :=
  if j = 0 then (∃ b, y = (.slice (some ⟨b, 0, none⟩) 2 2, bytesAt b [7, 1])) else
  if j = 2 then (∃ b, y = (.slice (some ⟨b, 0, none⟩) 1 1, bytesAt b [8])) else
  if j = 40 then (∃ b, y = (.slice (some ⟨b, 0, none⟩) 1 1, bytesAt b [9])) else
  if j = 50 then (∃ b, y = (.slice (some ⟨b, 0, none⟩) 1 1, bytesAt b [9])) else
  if j = 106 then (∃ b, y = (.slice (some ⟨b, 0, none⟩) 1 1, bytesAt b [10])) else
  if j = 1 then (∃ b, (xs.getD 0 (undef, 0)).1 = .slice (some ⟨b, 0, none⟩) 2 2 ∧ y = (kA 0 1 2 b 2, 0)) else
  if j = 3 then (∃ b, (xs.getD 0 (undef, 0)).1 = .slice (some ⟨b, 0, none⟩) 1 1 ∧ y = (kA 0 2 1 b 1, 0)) else
  if j = 41 then (∃ b, (xs.getD 0 (undef, 0)).1 = .slice (some ⟨b, 0, none⟩) 1 1 ∧ y = (kA 0 c a b 1, 0)) else
  if j = 51 then (∃ b, (xs.getD 0 (undef, 0)).1 = .slice (some ⟨b, 0, none⟩) 1 1 ∧ y = (kA 0 a a b 1, 0)) else
  if j = 107 then (∃ b, (xs.getD 0 (undef, 0)).1 = .slice (some ⟨b, 0, none⟩) 1 1 ∧ y = (kA 0 c a b 1, 0)) else
  if j = 108 then (∃ b b1 b2 b3 b4 b5, (xs.getD 0 (undef, 0)).1 = kA 0 1 2 b1 2 ∧ (xs.getD 1 (undef, 0)).1 = kA 0 2 1 b2 1 ∧ (xs.getD 2 (undef, 0)).1 = kA 0 c a b3 1 ∧ (xs.getD 3 (undef, 0)).1 = kA 0 a a b4 1 ∧ (xs.getD 4 (undef, 0)).1 = kA 0 c a b5 1 ∧ y = (.slice (some ⟨b, 0, none⟩) 19 19, pt b (.cells ((knownRows a c b1 b2 b3 b4 b5).flatten ++ []).toArray 59 (0, 0)))) else
  if j = 109 then (y = ((xs.getD 0 (undef, 0)).1, 0)) else False
theorem kR_108 {a c : Int} {x1 x2 x3 x4 x5 y : Value × Hp} (h : kR a c 108 [x1, x2, x3, x4, x5] y) : ∃ b b1 b2 b3 b4 b5, (x1).1 = kA 0 1 2 b1 2 ∧ (x2).1 = kA 0 2 1 b2 1 ∧ (x3).1 = kA 0 c a b3 1 ∧ (x4).1 = kA 0 a a b4 1 ∧ (x5).1 = kA 0 c a b5 1 ∧ y = (.slice (some ⟨b, 0, none⟩) 19 19, pt b (.cells ((knownRows a c b1 b2 b3 b4 b5).flatten ++ []).toArray 59 (0, 0))) := by
  simpa [kR] using h
theorem postKnown_spec (w0 : World) : Spec Try.prog w0 10 [] 0 (fun r h' => r = .bool true ∧ 0 = h') := by
  refine spec_of_hold_d Try.func10 rfl Try.ntmps10 Try.results10 rfl fun fr => ?_
  repeat (first | refine hold_seq ?_ | refine hold_region_lit ?_ | refine holdL_nil ?_ | refine L_of rfl rfl rfl ?_)
  refine L_eff rfl rfl (ev_buildSlice (vs := [_, _, _, _, _, _, _, _, _, _, _, _, _]) (cells := [_, _, _, _, _, _, _, _, _, _, _, _, _]) rfl rfl rfl rfl) ?_
  rintro _ _ ⟨bn, rfl, hL⟩
  have hL' : _ = pt bn (.cells ((enc1 knownN).flatten ++ []).toArray 3 (0, 0)) + (0 + fr) := hL
  subst hL'
  clear hL
  repeat (first | refine hold_seq ?_ | refine hold_block ?_ | refine hold_region_lit ?_ | refine holdL_nil ?_ | refine L_of rfl rfl rfl ?_)
  refine hold_loop (fun m g L => ∃ (i : Nat) (R : Hp), i ≤ 13 ∧ m = 13 - i ∧ g = [(1, .slice (some ⟨bn, 0, none⟩) 13 13), (2, .int .i64 i)] ∧ L = pt bn (.cells ((enc1 knownN).flatten ++ []).toArray 3 (0, 0)) + fr + R) _ _
    ⟨0, 0, by omega, rfl, rfl, by simp only [hadd_zero, hzero_add]⟩ (by repeat (first | exact sub_nil _ | refine sub_cons rfl ?_)) ?_
  rintro m g L ⟨i, R, hi, rfl, rfl, rfl⟩
  repeat (first | refine hold_seq ?_ | refine hold_region_lit ?_ | refine L_of rfl rfl rfl ?_ | refine L_len rfl rfl rfl ?_)
  refine L_dec rfl rfl (pv_lss rfl rfl) (fun h2 => ?_) (fun h2 => ?_)
  · have hi : i < knownN.length := by show i < 13; omega
    repeat (first | refine hold_seq ?_ | refine hold_block ?_ | refine hold_region_lit ?_ | refine holdL_nil ?_ | refine L_of rfl rfl rfl ?_ | refine hold_skip ?_ | refine hold_cond_t rfl ?_)
    refine hold_loop (fun m g L => ∃ (k : Nat) (R : Hp), k ≤ 13 ∧ m = 13 - k ∧ g = [(1, .slice (some ⟨bn, 0, none⟩) 13 13), (2, .int .i64 i), (3, .int .i64 k)] ∧ L = pt bn (.cells ((enc1 knownN).flatten ++ []).toArray 3 (0, 0)) + fr + R) _ _
      ⟨0, R, by omega, rfl, rfl, rfl⟩ (by repeat (first | exact sub_nil _ | refine sub_cons rfl ?_)) ?_
    rintro m g L ⟨k, R, hk, rfl, rfl, rfl⟩
    repeat (first | refine hold_seq ?_ | refine hold_region_lit ?_ | refine L_of rfl rfl rfl ?_ | refine L_len rfl rfl rfl ?_)
    refine L_dec rfl rfl (pv_lss rfl rfl) (fun h3 => ?_) (fun h3 => ?_)
    · have hk : k < knownN.length := by show k < 13; omega
      repeat (first | refine hold_seq ?_ | refine hold_block ?_ | refine holdL_nil ?_ | refine hold_skip ?_ | refine hold_cond_t rfl ?_)
      refine hold_draw_free [4, 5, 6, 7, 8, 9, 10, 11, 12, 13, 14, 15, 16, 17, 18, 19, 20, 21, 22, 23, 24, 25, 26, 27, 28, 29, 30, 31, 32, 33, 34, 35, 36, 37, 38, 39, 42, 43, 44, 45, 46, 47, 48, 49, 52, 53, 54, 55, 56, 57, 58, 59, 60, 61, 62, 63, 64, 65, 66, 67, 68, 69, 70, 71, 72, 73, 74, 75, 76, 77, 78, 79, 80, 81, 82, 83, 84, 85, 86, 87, 88, 89, 90, 91, 92, 93, 94, 95, 96, 97, 98, 99, 100, 101, 102, 103, 104, 105] 12 (by kernel_rfl) rfl (by kernel_rfl) (by kernel_rfl) ?_
      repeat (first | refine F_pure rfl rfl rfl (pv_indexAddr rfl rfl hi) ?_ | refine F_pure rfl rfl rfl (pv_indexAddr rfl rfl hk) ?_ | refine F_load rfl rfl rfl (lv_load rfl) (loads_row1 (o := 0) rfl (enc1_len1 _) (enc1_at hi) rfl) ?_ | refine F_load rfl rfl rfl (lv_load rfl) (loads_row1 (o := 0) rfl (enc1_len1 _) (enc1_at hk) rfl) ?_ | refine F_of rfl rfl rfl rfl ?_ | refine F_pure rfl rfl rfl (pv_build (cells := [_, _, _, _]) rfl rfl) ?_)
      refine F_end [0, 1, 2, 3, 40, 41, 50, 51, 106, 107, 108, 109] kSlot kDeps (kR (knownN.getD i 0) (knownN.getD k 0)) rfl (by kernel_rfl) ?_ ?_
      · intro j hj o ho σ hσ L'
        simp only [List.mem_cons, List.not_mem_nil, or_false] at hj
        rcases hj with rfl | rfl | rfl | rfl | rfl | rfl | rfl | rfl | rfl | rfl | rfl | rfl
        · obtain rfl := Option.some.inj ho
          refine EV.mono (ev_buildSlice (vs := [_, _]) (cells := [_, _]) rfl rfl rfl rfl) ?_
          rintro _ _ ⟨b, rfl, rfl⟩
          exact ⟨_, rfl, b, rfl⟩
        · obtain rfl := Option.some.inj ho
          obtain ⟨b, hb⟩ : ∃ b, σ 0 = (.slice (some ⟨b, 0, none⟩) 2 2, bytesAt b [7, 1]) := hσ 0 (by decide)
          have hx : (σ 0).1 = _ := congrArg Prod.fst hb
          show EV Try.prog w0 L' ((kSlot 0, (σ 0).1) :: _) _ _
          rw [hx]
          refine EV.mono (ev_pv (pv_build (cells := [_, _, _, _]) rfl rfl)) ?_
          rintro _ _ ⟨rfl, rfl⟩
          exact ⟨0, (hzero_add _).symm, b, hx, rfl⟩
        · obtain rfl := Option.some.inj ho
          refine EV.mono (ev_buildSlice (vs := [_]) (cells := [_]) rfl rfl rfl rfl) ?_
          rintro _ _ ⟨b, rfl, rfl⟩
          exact ⟨_, rfl, b, rfl⟩
        · obtain rfl := Option.some.inj ho
          obtain ⟨b, hb⟩ : ∃ b, σ 2 = (.slice (some ⟨b, 0, none⟩) 1 1, bytesAt b [8]) := hσ 2 (by decide)
          have hx : (σ 2).1 = _ := congrArg Prod.fst hb
          show EV Try.prog w0 L' ((kSlot 2, (σ 2).1) :: _) _ _
          rw [hx]
          refine EV.mono (ev_pv (pv_build (cells := [_, _, _, _]) rfl rfl)) ?_
          rintro _ _ ⟨rfl, rfl⟩
          exact ⟨0, (hzero_add _).symm, b, hx, rfl⟩
        · obtain rfl := Option.some.inj ho
          refine EV.mono (ev_buildSlice (vs := [_]) (cells := [_]) rfl rfl rfl rfl) ?_
          rintro _ _ ⟨b, rfl, rfl⟩
          exact ⟨_, rfl, b, rfl⟩
        · obtain rfl := Option.some.inj ho
          obtain ⟨b, hb⟩ : ∃ b, σ 40 = (.slice (some ⟨b, 0, none⟩) 1 1, bytesAt b [9]) := hσ 40 (by decide)
          have hx : (σ 40).1 = _ := congrArg Prod.fst hb
          show EV Try.prog w0 L' ((kSlot 40, (σ 40).1) :: _) _ _
          rw [hx]
          refine EV.mono (ev_pv (pv_build (cells := [_, _, _, _]) rfl rfl)) ?_
          rintro _ _ ⟨rfl, rfl⟩
          exact ⟨0, (hzero_add _).symm, b, hx, rfl⟩
        · obtain rfl := Option.some.inj ho
          refine EV.mono (ev_buildSlice (vs := [_]) (cells := [_]) rfl rfl rfl rfl) ?_
          rintro _ _ ⟨b, rfl, rfl⟩
          exact ⟨_, rfl, b, rfl⟩
        · obtain rfl := Option.some.inj ho
          obtain ⟨b, hb⟩ : ∃ b, σ 50 = (.slice (some ⟨b, 0, none⟩) 1 1, bytesAt b [9]) := hσ 50 (by decide)
          have hx : (σ 50).1 = _ := congrArg Prod.fst hb
          show EV Try.prog w0 L' ((kSlot 50, (σ 50).1) :: _) _ _
          rw [hx]
          refine EV.mono (ev_pv (pv_build (cells := [_, _, _, _]) rfl rfl)) ?_
          rintro _ _ ⟨rfl, rfl⟩
          exact ⟨0, (hzero_add _).symm, b, hx, rfl⟩
        · obtain rfl := Option.some.inj ho
          refine EV.mono (ev_buildSlice (vs := [_]) (cells := [_]) rfl rfl rfl rfl) ?_
          rintro _ _ ⟨b, rfl, rfl⟩
          exact ⟨_, rfl, b, rfl⟩
        · obtain rfl := Option.some.inj ho
          obtain ⟨b, hb⟩ : ∃ b, σ 106 = (.slice (some ⟨b, 0, none⟩) 1 1, bytesAt b [10]) := hσ 106 (by decide)
          have hx : (σ 106).1 = _ := congrArg Prod.fst hb
          show EV Try.prog w0 L' ((kSlot 106, (σ 106).1) :: _) _ _
          rw [hx]
          refine EV.mono (ev_pv (pv_build (cells := [_, _, _, _]) rfl rfl)) ?_
          rintro _ _ ⟨rfl, rfl⟩
          exact ⟨0, (hzero_add _).symm, b, hx, rfl⟩
        · obtain rfl := Option.some.inj ho
          obtain ⟨b1, q1, e1⟩ : ∃ b, (σ 0).1 = .slice (some ⟨b, 0, none⟩) 2 2 ∧ σ 1 = (kA 0 1 2 b 2, 0) := hσ 1 (by decide)
          obtain ⟨b2, q2, e2⟩ : ∃ b, (σ 2).1 = .slice (some ⟨b, 0, none⟩) 1 1 ∧ σ 3 = (kA 0 2 1 b 1, 0) := hσ 3 (by decide)
          obtain ⟨b3, q3, e3⟩ : ∃ b, (σ 40).1 = .slice (some ⟨b, 0, none⟩) 1 1 ∧ σ 41 = (kA 0 (knownN.getD k 0) (knownN.getD i 0) b 1, 0) := hσ 41 (by decide)
          obtain ⟨b4, q4, e4⟩ : ∃ b, (σ 50).1 = .slice (some ⟨b, 0, none⟩) 1 1 ∧ σ 51 = (kA 0 (knownN.getD i 0) (knownN.getD i 0) b 1, 0) := hσ 51 (by decide)
          obtain ⟨b5, q5, e5⟩ : ∃ b, (σ 106).1 = .slice (some ⟨b, 0, none⟩) 1 1 ∧ σ 107 = (kA 0 (knownN.getD k 0) (knownN.getD i 0) b 1, 0) := hσ 107 (by decide)
          have x1 : (σ 1).1 = _ := congrArg Prod.fst e1
          have x2 : (σ 3).1 = _ := congrArg Prod.fst e2
          have x3 : (σ 41).1 = _ := congrArg Prod.fst e3
          have x4 : (σ 51).1 = _ := congrArg Prod.fst e4
          have x5 : (σ 107).1 = _ := congrArg Prod.fst e5
          show EV Try.prog w0 L' ((kSlot 1, (σ 1).1) :: (kSlot 3, (σ 3).1) :: (kSlot 41, (σ 41).1) :: (kSlot 51, (σ 51).1) :: (kSlot 107, (σ 107).1) :: _) _ _
          rw [x1, x2, x3, x4, x5]
          unfold kA
          refine EV.mono (ev_buildSlice (vs := (knownRows (knownN.getD i 0) (knownN.getD k 0) b1 b2 b3 b4 b5).map fun r => .agg r.toArray) (cells := (knownRows (knownN.getD i 0) (knownN.getD k 0) b1 b2 b3 b4 b5).flatten ++ []) (by kernel_rfl) rfl rfl (by kernel_rfl)) ?_
          rintro _ _ ⟨b, rfl, rfl⟩
          exact ⟨_, rfl, b, b1, b2, b3, b4, b5, x1, x2, x3, x4, x5, rfl⟩
        · obtain rfl := Option.some.inj ho
          refine EV.mono (ev_pv (pv_assign rfl)) ?_
          rintro _ _ ⟨rfl, rfl⟩
          exact ⟨0, (hzero_add _).symm, rfl⟩
      · intro σ hR
        obtain ⟨b1, e0⟩ : ∃ b, σ 0 = (.slice (some ⟨b, 0, none⟩) 2 2, bytesAt b [7, 1]) := hR 0 (by decide)
        obtain ⟨b2, e2⟩ : ∃ b, σ 2 = (.slice (some ⟨b, 0, none⟩) 1 1, bytesAt b [8]) := hR 2 (by decide)
        obtain ⟨b3, e40⟩ : ∃ b, σ 40 = (.slice (some ⟨b, 0, none⟩) 1 1, bytesAt b [9]) := hR 40 (by decide)
        obtain ⟨b4, e50⟩ : ∃ b, σ 50 = (.slice (some ⟨b, 0, none⟩) 1 1, bytesAt b [9]) := hR 50 (by decide)
        obtain ⟨b5, e106⟩ : ∃ b, σ 106 = (.slice (some ⟨b, 0, none⟩) 1 1, bytesAt b [10]) := hR 106 (by decide)
        obtain ⟨q, p, e1⟩ : ∃ b, (σ 0).1 = .slice (some ⟨b, 0, none⟩) 2 2 ∧ σ 1 = (kA 0 1 2 b 2, 0) := hR 1 (by decide)
        rw [e0] at p
        obtain rfl : b1 = q := by simpa using p
        clear p
        obtain ⟨q, p, e3⟩ : ∃ b, (σ 2).1 = .slice (some ⟨b, 0, none⟩) 1 1 ∧ σ 3 = (kA 0 2 1 b 1, 0) := hR 3 (by decide)
        rw [e2] at p
        obtain rfl : b2 = q := by simpa using p
        clear p
        obtain ⟨q, p, e41⟩ : ∃ b, (σ 40).1 = .slice (some ⟨b, 0, none⟩) 1 1 ∧ σ 41 = (kA 0 (knownN.getD k 0) (knownN.getD i 0) b 1, 0) := hR 41 (by decide)
        rw [e40] at p
        obtain rfl : b3 = q := by simpa using p
        clear p
        obtain ⟨q, p, e51⟩ : ∃ b, (σ 50).1 = .slice (some ⟨b, 0, none⟩) 1 1 ∧ σ 51 = (kA 0 (knownN.getD i 0) (knownN.getD i 0) b 1, 0) := hR 51 (by decide)
        rw [e50] at p
        obtain rfl : b4 = q := by simpa using p
        clear p
        obtain ⟨q, p, e107⟩ : ∃ b, (σ 106).1 = .slice (some ⟨b, 0, none⟩) 1 1 ∧ σ 107 = (kA 0 (knownN.getD k 0) (knownN.getD i 0) b 1, 0) := hR 107 (by decide)
        rw [e106] at p
        obtain rfl : b5 = q := by simpa using p
        clear p
        obtain ⟨b6, c1, c2, c3, c4, c5, r1, r2, r3, r4, r5, e108⟩ : ∃ b b1 b2 b3 b4 b5, (σ 1).1 = kA 0 1 2 b1 2 ∧ (σ 3).1 = kA 0 2 1 b2 1 ∧ (σ 41).1 = kA 0 (knownN.getD k 0) (knownN.getD i 0) b3 1 ∧ (σ 51).1 = kA 0 (knownN.getD i 0) (knownN.getD i 0) b4 1 ∧ (σ 107).1 = kA 0 (knownN.getD k 0) (knownN.getD i 0) b5 1 ∧ σ 108 = (.slice (some ⟨b, 0, none⟩) 19 19, pt b (.cells ((knownRows (knownN.getD i 0) (knownN.getD k 0) b1 b2 b3 b4 b5).flatten ++ []).toArray 59 (0, 0))) := kR_108 (hR 108 (by decide))
        rw [e1] at r1
        obtain rfl : b1 = c1 := by simpa [kA] using r1
        clear r1
        rw [e3] at r2
        obtain rfl : b2 = c2 := by simpa [kA] using r2
        clear r2
        rw [e41] at r3
        obtain rfl : b3 = c3 := by simpa [kA] using r3
        clear r3
        rw [e51] at r4
        obtain rfl : b4 = c4 := by simpa [kA] using r4
        clear r4
        rw [e107] at r5
        obtain rfl : b5 = c5 := by simpa [kA] using r5
        clear r5
        have e109 : σ 109 = ((σ 108).1, 0) := hR 109 (by decide)
        rw [e108] at e109
        have x109 : (σ 109).1 = .slice (some ⟨b6, 0, none⟩) 19 19 := by rw [e109]
        refine hold_env (g' := [(1, .slice (some ⟨bn, 0, none⟩) 13 13), (2, .int .i64 i), (3, .int .i64 k), (4, (σ 109).1)]) (by repeat (first | exact sub_nil _ | refine sub_cons rfl ?_)) ?_
        rw [x109]
        obtain ⟨X, hX, eX⟩ : ∃ X, opsAt (knownOps (knownN.getD i 0) (knownN.getD k 0)) (.slice (some ⟨b6, 0, none⟩) 19 19) X ∧ X = _ := ⟨_, known_at (knownN.getD i 0) (knownN.getD k 0) b6 b1 b2 b3 b4 b5, rfl⟩
        refine hold_heap (R := 0) (X + (pt bn (.cells ((enc1 knownN).flatten ++ []).toArray 3 (0, 0)) + fr + R)) ?_ ?_
        · show (σ 0).2 + ((σ 1).2 + ((σ 2).2 + ((σ 3).2 + ((σ 40).2 + ((σ 41).2 + ((σ 50).2 + ((σ 51).2 + ((σ 106).2 + ((σ 107).2 + ((σ 108).2 + ((σ 109).2 + 0))))))))))) + _ = _
          rw [eX, e0, e1, e2, e3, e40, e41, e50, e51, e106, e107, e108, e109]
          simp only [hadd_zero, hzero_add]
          ac_rfl
        clear eX hR e0 e1 e2 e3 e40 e41 e50 e51 e106 e107 e108 e109 x109 σ
        have hle1 := knownN_le i hi
        have hle2 := knownN_le k hk
        have hfine := known_fine _ _ hle1 hle2
        have hrd : RdOpsL w0 X (.slice (some ⟨b6, 0, none⟩) 19 19) (knownOps (knownN.getD i 0) (knownN.getD k 0)) := hX.rd fun o ho => (hfine o ho).2
        have hln : (knownOps (knownN.getD i 0) (knownN.getD k 0)).length = 19 := rfl
        have hruns := runs_at w0 X _ _ hrd (by rw [hln]; decide) fun o ho => (hfine o ho).1
        have hkeeps := keeps_at w0 X _ _ hrd (by rw [hln]; decide)
        have hrd5 := hrd.take (m := 5) (by rw [hln]; decide)
        have hln5 : ((knownOps (knownN.getD i 0) (knownN.getD k 0)).take 5).length = 5 := rfl
        generalize (knownOps (knownN.getD i 0) (knownN.getD k 0)).take 5 = os5 at *
        repeat (refine hold_seq ?_)
        refine hold_draw [1, 5, 19, 20] [0, 1, 2, 3, 4, 5, 6, 7, 8, 9, 10, 11, 12, 13, 14, 15, 16, 17, 18, 19, 20, 21, 22] (by kernel_rfl) rfl (by kernel_rfl) (by kernel_rfl) ?_
        repeat (refine W_of rfl rfl rfl rfl rfl ?_)
        refine W_call rfl rfl rfl rfl (cv_fun rfl rfl rfl) hruns (Kept.all _) ?_
        rintro _ _ ⟨rfl, rfl⟩
        refine ⟨(by repeat (first | exact trivial | exact loads_scalar rfl (reads_pt rfl) | exact loads_part rfl rfl rfl | refine ⟨?_, ?_⟩)), ?_⟩
        repeat (refine W_of rfl rfl rfl rfl rfl ?_)
        refine W_call rfl rfl rfl rfl (cv_fun rfl rfl rfl) hkeeps (Kept.all _) ?_
        rintro _ _ ⟨rfl, rfl⟩
        refine ⟨(by repeat (first | exact trivial | exact loads_scalar rfl (reads_pt rfl) | exact loads_part rfl rfl rfl | refine ⟨?_, ?_⟩)), ?_⟩
        repeat (refine W_of rfl rfl rfl rfl rfl ?_)
        refine W_pure rfl rfl rfl rfl (pv_slice_h (m := 5) rfl rfl (by omega)) ?_
        repeat (refine W_of rfl rfl rfl rfl rfl ?_)
        refine W_pure rfl rfl rfl rfl (pv_indexAddr rfl rfl hi) ?_
        refine W_load rfl rfl rfl rfl (lv_load rfl) (loads_row1 (o := 0) rfl (enc1_len1 _) (enc1_at hi) rfl) ?_
        repeat (refine W_of rfl rfl rfl rfl rfl ?_)
        refine W_pure rfl rfl rfl rfl (pv_indexAddr rfl rfl hk) ?_
        refine W_load rfl rfl rfl rfl (lv_load rfl) (loads_row1 (o := 0) rfl (enc1_len1 _) (enc1_at hk) rfl) ?_
        skip
        refine W_eff rfl rfl rfl rfl (ev_buildSlice (vs := [_]) (cells := [_]) rfl rfl rfl rfl) (Kept.all _) ?_
        rintro _ _ ⟨b7, rfl, rfl⟩
        refine ⟨⟨loads_row1 (o := 0) rfl (enc1_len1 _) (enc1_at hk) rfl, loads_row1 (o := 0) rfl (enc1_len1 _) (enc1_at hi) rfl, trivial⟩, ?_⟩
        skip
        have hX5 : RdOpsL w0 (X + bytesAt b7 [5]) (.slice (some ⟨b6, 0, none⟩) 5 19) os5 := hrd5.frame (R := bytesAt b7 [5])
        have hbd : RdRow w0 (X + bytesAt b7 [5]) 1 (.slice (some ⟨b7, 0, none⟩) 1 1) (encB [5]) := isRow.rd (bytesAt_row (b := b7) (l := [5]) (by simp)) (hf := by infer_instance)
        have hcuts := cuts_at w0 (X + bytesAt b7 [5]) _ os5 (knownN.getD i 0) (knownN.getD k 0) 4 _ [5] hX5 (by rw [hln5]; decide) hbd (by simp)
        rw [show bytesAt b7 [5] = pt b7 (.cells [.int .u8 5].toArray 5 (0, 0)) from rfl] at hcuts
        refine W_call rfl rfl rfl rfl (cv_fun rfl rfl rfl) hcuts (Kept.all _) ?_
        rintro _ _ ⟨rfl, rfl⟩
        refine ⟨⟨loads_row1 (o := 0) rfl (enc1_len1 _) (enc1_at hk) rfl, loads_row1 (o := 0) rfl (enc1_len1 _) (enc1_at hi) rfl, trivial⟩, ?_⟩
        repeat (first | refine W_nil ?_ | refine W_of rfl rfl rfl rfl rfl ?_)
        repeat (first | refine hold_region_lit ?_ | refine holdL_nil ?_ | refine L_of rfl rfl rfl ?_ | refine hold_skip ?_ | refine hold_cond_f rfl ?_ | refine L_add rfl rfl (by omega) (by omega) rfl rfl ?_)
        exact ⟨13 - (k + 1), _, by omega, (by repeat (first | exact sub_nil _ | refine sub_cons rfl ?_)), k + 1, _, by omega, rfl, rfl, FrameI.out⟩
    · repeat (first | refine hold_exit ?_ | refine hold_region_lit ?_ | refine holdL_nil ?_ | refine L_of rfl rfl rfl ?_ | refine hold_cond_f rfl ?_ | refine L_add rfl rfl (by omega) (by omega) rfl rfl ?_)
      exact ⟨13 - (i + 1), _, by omega, (by repeat (first | exact sub_nil _ | refine sub_cons rfl ?_)), i + 1, _, by omega, rfl, rfl, FrameI.out⟩
  · repeat (first | refine hold_seq ?_ | refine hold_exit ?_ | refine hold_region_lit ?_ | refine holdL_nil ?_ | refine hold_cond_f rfl ?_)
    refine L_call rfl rfl (cv_fun rfl rfl rfl) (knownFull_spec w0) ?_
    rintro _ _ ⟨rfl, rfl⟩
    repeat (refine L_of rfl rfl rfl ?_)
    refine L_call rfl rfl (cv_fun rfl rfl rfl) (works06_spec w0) ?_
    rintro _ _ ⟨rfl, rfl⟩
    repeat (first | refine holdL_nil ?_ | refine L_of rfl rfl rfl ?_ | refine hold_ret ?_)
    exact ⟨[_], 0, _, ⟨rfl, trivial⟩, ⟨rfl, rfl⟩, FrameI.out⟩
end Sl
end Go.Proofs.Ytfdimkpanbgffaa
