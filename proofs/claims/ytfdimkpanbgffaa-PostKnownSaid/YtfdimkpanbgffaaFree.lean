/-
  Regions that draw their order and hold operations that take new memory, each for itself: in whatever order they come. No program in sight.
-/
import Derived.Test.YtfdimkpanbgffaaVals
namespace Go.Proofs.Ytfdimkpanbgffaa
open Go Go.RowKit
namespace Sl
set_option linter.unusedVariables false
set_option linter.unusedSimpArgs false
/-- In this order, behind what is in acc: each has what must come ahead of it, and is apart from all that is not yet in, but for what must come behind it. -/
def okF (ops : Array Oper) : List Nat → List Nat → Bool
  | _, [] => true
  | acc, i :: s => (match ops[i]? with
      | some oi => !acc.contains i && oi.after.all (fun e => !Region.binds .any e || acc.contains e.on) && (List.range ops.size).all (fun j => j == i || acc.contains j ||
          match ops[j]? with
          | some oj => oj.after.any (fun e => Region.binds .any e && e.on == i) || oi.apart ops oj
          | none => true)
      | none => false) && okF ops (i :: acc) s
/-- First, in this order, what is quiet; then m more operations. -/
def HoldF (P : Program) (n : Nat) (w0 : World) (ops : Array Oper) (m : Nat) (W : Watched) (listed : Array Bool) (s : List Nat) (Q : Post) (g : Env) (L : Hp) : Prop :=
  ∀ acc, (∀ k, listed.getD k false = acc.contains k) → listed.size = ops.size → okF ops acc s = true → Closed ops listed → NP Q → Region.noSelect ops = true → (∀ p ∈ W, Loads P w0 L p.2.1 p.2.2.1 p.2.2.2) →
    ∀ a w, Fits n a g → St w0 w L → WG P ops (lift n w0 Q) (s.length + m) (W.at P) listed a w
theorem getD_both {l : Array Bool} {k : Nat} (h : k < l.size) (a b : Bool) : l.getD k a = l.getD k b := by
  rw [Array.getD_eq_getD_getElem?, Array.getD_eq_getD_getElem?, Array.getElem?_eq_getElem h]; rfl
section
variable {P : Program} {n : Nat} {w0 : World} {Q : Post} {g : Env} {L : Hp} {ops : Array Oper} {m : Nat} {W : Watched} {listed : Array Bool} {s : List Nat}
theorem hold_draw_free {id : Nat} [hq : NP Q] (s : List Nat) (m : Nat) (hm : P.follows .mixedOrders = true) (hl : s.length + m = ops.size) (hs : Region.noSelect ops = true)
    (hok : okF ops [] s = true) (h : HoldF P n w0 ops m [] (Array.replicate ops.size false) s Q g L) : Hold P n w0 (.region id ops true) Q g L := by
  intro a w ha hst
  refine wp_region_any hm (WG_any _ [] _ _ _ ?_)
  rw [← hl]
  have := h [] (fun k => by simp [Array.getD_eq_getD_getElem?, Array.getElem?_replicate]; split <;> rfl) (by simp) hok (Closed.start ops _) hq hs (by simp) a { w with drawn := w.drawn + 1 } ha hst.drew
  rw [← hl] at this
  exact this
theorem F_take {i : Nat} {o : Oper} {v : Value} (S : World → Prop) (W' : Watched) (hi : ops[i]? = some o) (hd : o.dst.all (· < n) = true)
    (hW' : ∀ p ∈ (i, S) :: Watched.at P W, p ∈ Watched.at P W' ∨ ∀ w, p.2 w) (hS : ∀ w, St w0 w L → S w) (hlW : (∀ p ∈ W, Loads P w0 L p.2.1 p.2.2.1 p.2.2.2) → ∀ p ∈ W', Loads P w0 L p.2.1 p.2.2.1 p.2.2.2)
    (hy : ∀ a, Fits n a g → YieldsIf P ops S o v a)
    (hk : HoldF P n w0 ops m W' (listed.setIfInBounds i true) s Q (putE g o.dst v) L) : HoldF P n w0 ops m W listed (i :: s) Q g L := by
  intro acc hacc hsz hok hc hq hsel hW a w ha hst
  simp only [okF, hi, Bool.and_eq_true, Bool.not_eq_true'] at hok
  obtain ⟨⟨⟨h0, h1⟩, h2⟩, h3⟩ := hok
  have hlt : i < listed.size := by rw [hsz]; exact (Array.getElem?_eq_some_iff.1 hi).1
  have hr : i ∈ Region.ready .any ops listed := mem_ready.2 ⟨by rw [getD_both hlt true false, hacc i, h0], o, hi, fun e he hb => by
    have := (Array.all_eq_true_iff_forall_mem.1 h1) e he
    simp only [hb, Bool.not_true, Bool.false_or] at this
    rw [hacc, this]⟩
  have hnext : ∀ k, (listed.setIfInBounds i true).getD k false = (i :: acc).contains k := by
    intro k
    by_cases hik : i = k
    · subst hik
      rw [Array.getD_eq_getD_getElem?, Array.getElem?_setIfInBounds, if_pos rfl, if_pos hlt]; simp
    · rw [getD_set_ne false hik, hacc k]
      simp [List.contains_cons, Ne.symm hik]
  have H := hk (i :: acc) hnext (by simpa using hsz) h3 (hc.set hr) hq hsel (hlW hW) (a.put o.dst v) w (ha.put hd v) hst
  rw [show (i :: s).length + m = (s.length + m) + 1 by simp only [List.length_cons]; omega]
  refine WG_first hi (Region.noSelect_spec hsel) (fun c a w => lift_np c a w) (s.length + m) (W.at P) listed a w hc
    (fun j oj hj hne hun hno => ?_) hr (hy a ha) (hS w hst) (watch_holds hW hst) (WG_sub _ _ _ _ _ _ hW' H)
  have hj' := (Array.getElem?_eq_some_iff.1 hj).1
  have h4 := List.all_eq_true.1 h2 j (List.mem_range.2 hj')
  have hjl : acc.contains j = false := by rw [← hacc j, getD_both (by rw [hsz]; exact hj') false true]; exact hun
  have hji : (j == i) = false := by simp [hne]
  simp only [hji, hjl, hj, Bool.false_or, Bool.or_eq_true] at h4
  rcases h4 with h4 | h4
  · rw [Array.any_eq_true'] at h4
    obtain ⟨e, he, h5⟩ := h4
    simp only [Bool.and_eq_true, beq_iff_eq] at h5
    exact absurd h5.2 (hno e he h5.1)
  · exact h4
theorem F_pure {i : Nat} {dst : Option Nat} {op : Op} {ty : TypeId} {pos : String} {af : Array Edge} {gd : Option (Nat × Bool)} (hi : ops[i]? = some ⟨dst, op, ty, pos, af, gd⟩) (hw : wantedE ops g gd = some true) (hd : dst.all (· < n) = true) {v : Value} (h : PV P g op v)
    (hk : HoldF P n w0 ops m W (listed.setIfInBounds i true) s Q (putE g dst v) L) : HoldF P n w0 ops m W listed (i :: s) Q g L :=
  F_take (fun _ => True) W hi hd (fun p hp => by rcases List.mem_cons.1 hp with rfl | hp; exact .inr fun _ => trivial; exact .inl hp) (fun _ _ => trivial) id
    (fun a ha => .inl ⟨wanted_of (o := ⟨dst, op, ty, pos, af, gd⟩) ha hw, fun w _ => h ⟨dst, op, ty, pos, af, gd⟩ a w n rfl ha⟩) hk
theorem F_of {i : Nat} {dst : Option Nat} {op : Op} {ty : TypeId} {pos : String} {af : Array Edge} {gd : Option (Nat × Bool)} {v : Value} (hi : ops[i]? = some ⟨dst, op, ty, pos, af, gd⟩) (h : pureV g op = some v) (hw : wantedE ops g gd = some true) (hd : dst.all (· < n) = true)
    (hk : HoldF P n w0 ops m W (listed.setIfInBounds i true) s Q (putE g dst v) L) : HoldF P n w0 ops m W listed (i :: s) Q g L := F_pure hi hw hd (pv_of h) hk
theorem F_load {i : Nat} {dst : Option Nat} {op : Op} {ty : TypeId} {pos : String} {af : Array Edge} {gd : Option (Nat × Bool)} (hi : ops[i]? = some ⟨dst, op, ty, pos, af, gd⟩) (hw : wantedE ops g gd = some true) (hd : dst.all (· < n) = true) {t : TypeId} {ad : Addr} {v : Value} (h : LV g op t ad)
    (hr : Loads P w0 L t ad v) (hk : HoldF P n w0 ops m ((i, t, ad, v) :: W) (listed.setIfInBounds i true) s Q (putE g dst v) L) : HoldF P n w0 ops m W listed (i :: s) Q g L :=
  F_take (fun w => (loadVar t ad).run P w = .ok v w) ((i, t, ad, v) :: W) hi hd (fun p hp => .inl hp) hr
    (fun hW p hp => by rcases List.mem_cons.1 hp with rfl | hp; exact hr; exact hW p hp)
    (fun a ha => .inl ⟨wanted_of (o := ⟨dst, op, ty, pos, af, gd⟩) ha hw, fun w hS => by rw [h ⟨dst, op, ty, pos, af, gd⟩ a n rfl ha]; simp only [Sem.run_bind, hS, Result.andThen_ok, Sem.run_pure]⟩) hk
end
/-! ### The rest, in whatever order -/
def topo (ops : Array Oper) : Array Bool → List Nat → Bool
  | _, [] => true
  | listed, j :: r => (match ops[j]? with | some o => o.after.all fun e => !Region.binds .any e || listed.getD e.on false | none => false) && topo ops (listed.setIfInBounds j true) r
def okOne (ops : Array Oper) (listed : Array Bool) (n : Nat) (g : Env) (rest : List Nat) (sl : Nat → Nat) (dp : Nat → List Nat) (j : Nat) : Bool :=
  match ops[j]? with
  | some o => o.dst == some (sl j) && o.guard.isNone && decide (sl j < n) && (look g (sl j)).isNone && !listed.getD j true && (dp j).all fun d => rest.contains d && o.after.any fun e => Region.binds .any e && e.on == d
  | none => false
def okRest (ops : Array Oper) (listed : Array Bool) (n : Nat) (g : Env) (rest : List Nat) (sl : Nat → Nat) (dp : Nat → List Nat) : Bool :=
  rest.all (okOne ops listed n g rest sl dp) && decide (rest.map sl).Nodup && decide rest.Nodup && (List.range ops.size).all (fun k => rest.contains k || listed.getD k false) && topo ops listed rest
def envF (sl : Nat → Nat) (σ : Nat → Value × Hp) (js : List Nat) : Env := js.map fun d => (sl d, (σ d).1)
theorem look_append : ∀ (e g : Env) (t : Nat) (v : Value), look (e ++ g) t = some v → look e t = some v ∨ look g t = some v
  | [], g, t, v, h => .inr h
  | (d, u) :: e, g, t, v, h => by
    simp only [List.cons_append, look] at h ⊢
    split at h
    · rename_i hd; rw [if_pos hd]; exact .inl h
    · rename_i hd; rw [if_neg hd]; exact look_append e g t v h
theorem look_envF {sl : Nat → Nat} {σ : Nat → Value × Hp} : ∀ {js : List Nat} {t : Nat} {v : Value}, look (envF sl σ js) t = some v → ∃ d ∈ js, sl d = t ∧ (σ d).1 = v
  | [], t, v, h => by cases h
  | d :: js, t, v, h => by
    simp only [envF, List.map_cons, look] at h
    split at h
    · rename_i hd; exact ⟨d, by simp, hd, Option.some.inj h⟩
    · obtain ⟨d', h1, h2, h3⟩ := look_envF (js := js) h; exact ⟨d', by simp [h1], h2, h3⟩
theorem hsum_done : ∀ {rest : List Nat}, rest.Nodup → ∀ {i : Nat} (F F' : Nat → Hp) (p : Nat → Bool), p i = false → (∀ k, k ≠ i → F' k = F k) →
    (i ∈ rest → hsum ((rest.filter fun k => k == i || p k).map F') = F' i + hsum ((rest.filter p).map F)) ∧ (i ∉ rest → hsum ((rest.filter fun k => k == i || p k).map F') = hsum ((rest.filter p).map F)) := by
  intro rest
  induction rest with
  | nil => intro _ i F F' p _ _; exact ⟨fun h => (by cases h), fun _ => rfl⟩
  | cons x xs ih =>
    intro hn i F F' p hp hF
    obtain ⟨hx, hn'⟩ := List.nodup_cons.1 hn
    obtain ⟨ih1, ih2⟩ := ih hn' F F' p hp hF
    by_cases hxi : x = i
    · subst hxi
      refine ⟨fun _ => ?_, fun h => absurd (by simp) h⟩
      simp only [List.filter_cons, beq_self_eq_true, Bool.true_or, if_true, hp, Bool.false_eq_true, if_false, List.map_cons, hsum]
      rw [ih2 hx]
    · have hxb : (x == i) = false := by simp [hxi]
      refine ⟨fun h => ?_, fun h => ?_⟩
      · have hm : i ∈ xs := by simpa [Ne.symm hxi] using h
        simp only [List.filter_cons, hxb, Bool.false_or]
        by_cases hpx : p x = true
        · simp only [hpx, if_true, List.map_cons, hsum, hF x hxi]
          rw [ih1 hm]; ac_rfl
        · simp only [hpx, if_false, Bool.false_eq_true]
          exact ih1 hm
      · have hm : i ∉ xs := fun h' => h (by simp [h'])
        simp only [List.filter_cons, hxb, Bool.false_or]
        by_cases hpx : p x = true
        · simp only [hpx, if_true, List.map_cons, hsum, hF x hxi]
          rw [ih2 hm]
        · simp only [hpx, if_false, Bool.false_eq_true]
          exact ih2 hm
theorem count_done : ∀ {rest : List Nat}, rest.Nodup → ∀ {i : Nat} (p : Nat → Bool), p i = false →
    (i ∈ rest → (rest.filter fun k => !p k).length = (rest.filter fun k => !(k == i || p k)).length + 1) ∧ (i ∉ rest → (rest.filter fun k => !p k).length = (rest.filter fun k => !(k == i || p k)).length) := by
  intro rest
  induction rest with
  | nil => intro _ i p _; exact ⟨fun h => (by cases h), fun _ => rfl⟩
  | cons x xs ih =>
    intro hn i p hp
    obtain ⟨hx, hn'⟩ := List.nodup_cons.1 hn
    obtain ⟨ih1, ih2⟩ := ih hn' p hp
    by_cases hxi : x = i
    · subst hxi
      refine ⟨fun _ => ?_, fun h => absurd (by simp) h⟩
      simp only [List.filter_cons, beq_self_eq_true, Bool.true_or, Bool.not_true, Bool.false_eq_true, if_false, hp, Bool.not_false, if_true, List.length_cons]
      rw [ih2 hx]
    · have hxb : (x == i) = false := by simp [hxi]
      refine ⟨fun h => ?_, fun h => ?_⟩
      · have hm : i ∈ xs := by simpa [Ne.symm hxi] using h
        simp only [List.filter_cons, hxb, Bool.false_or]
        by_cases hpx : p x = true
        · simpa [hpx] using ih1 hm
        · have := ih1 hm
          simp only [hpx, Bool.not_false, if_true, List.length_cons]; omega
      · have hm : i ∉ xs := fun h' => h (by simp [h'])
        simp only [List.filter_cons, hxb, Bool.false_or]
        by_cases hpx : p x = true
        · simpa [hpx] using ih2 hm
        · have := ih2 hm
          simp only [hpx, Bool.not_false, if_true, List.length_cons]; omega
theorem topo_ready {ops : Array Oper} {listed' : Array Bool} : ∀ {rest : List Nat} {listed : Array Bool}, topo ops listed rest = true → (∀ k, listed.getD k false = true → listed'.getD k false = true) → (∀ j ∈ rest, listed'.getD j true = listed'.getD j false) →
    (∃ j ∈ rest, listed'.getD j false = false) → Region.ready .any ops listed' ≠ [] := by
  intro rest
  induction rest with
  | nil => rintro _ _ _ _ ⟨j, hj, _⟩; cases hj
  | cons x xs ih =>
    intro listed ht hl hg hex
    simp only [topo, Bool.and_eq_true] at ht
    obtain ⟨h1, h2⟩ := ht
    cases ho : ops[x]? with
    | none => rw [ho] at h1; cases h1
    | some o =>
      rw [ho] at h1
      cases hx : listed'.getD x false with
      | false =>
        intro hnil
        have : x ∈ Region.ready .any ops listed' := by
          refine mem_ready.2 ⟨by rw [hg x (by simp)]; exact hx, o, ho, fun e he hb => ?_⟩
          have := (Array.all_eq_true_iff_forall_mem.1 h1) e he
          simp only [hb, Bool.not_true, Bool.false_or] at this
          exact hl _ this
        rw [hnil] at this; cases this
      | true =>
        refine ih h2 (fun k hk => ?_) (fun j hj => hg j (by simp [hj])) ?_
        · by_cases hxk : x = k
          · subst hxk; exact hx
          · rw [getD_set_ne false hxk] at hk; exact hl k hk
        · obtain ⟨j, hj, hf⟩ := hex
          rcases List.mem_cons.1 hj with rfl | hj
          · rw [hx] at hf; cases hf
          · exact ⟨j, hj, hf⟩
section
variable {P : Program} {n : Nat} {w0 : World} {Q : Post} {g : Env} {L : Hp} {ops : Array Oper} {W : Watched} {listed : Array Bool}
theorem ev_pv {L : Hp} {op : Op} {v : Value} (h : PV P g op v) : EV P w0 L g op (fun u L' => u = v ∧ L' = L) := fun o a w n ho ha hst => ⟨v, w, L, .inl (h o a w n ho ha), ⟨rfl, rfl⟩, hst⟩
theorem F_end {m : Nat} (rest : List Nat) (sl : Nat → Nat) (dp : Nat → List Nat) (R : Nat → List (Value × Hp) → Value × Hp → Prop) (hm : rest.length = m) (hchk : okRest ops listed n g rest sl dp = true)
    (hstep : ∀ j ∈ rest, ∀ o, ops[j]? = some o → ∀ σ : Nat → Value × Hp, (∀ d ∈ dp j, R d ((dp d).map σ) (σ d)) → ∀ L', EV P w0 L' (envF sl σ (dp j) ++ g) o.op fun v L'' => ∃ h, L'' = h + L' ∧ R j ((dp j).map σ) (v, h))
    (hend : ∀ σ : Nat → Value × Hp, (∀ j ∈ rest, R j ((dp j).map σ) (σ j)) → Q .normal (envF sl σ rest ++ g) (hsum (rest.map fun j => (σ j).2) + L)) :
    HoldF P n w0 ops m W listed [] Q g L := by
  intro acc _ hsz _ hc hq hsel hW a w ha hst
  simp only [okRest, Bool.and_eq_true, decide_eq_true_eq, List.all_eq_true] at hchk
  obtain ⟨⟨⟨⟨hone, hsl⟩, hnd⟩, hcov⟩, htopo⟩ := hchk
  have hone' : ∀ j ∈ rest, ∃ o, ops[j]? = some o ∧ o.dst = some (sl j) ∧ o.guard = none ∧ sl j < n ∧ look g (sl j) = none ∧ listed.getD j true = false ∧ ∀ d ∈ dp j, d ∈ rest ∧ ∃ e ∈ o.after, Region.binds .any e = true ∧ e.on = d := by
    intro j hj
    have := hone j hj
    unfold okOne at this
    cases ho : ops[j]? with
    | none => rw [ho] at this; cases this
    | some o =>
      rw [ho] at this
      simp only [Bool.and_eq_true, beq_iff_eq, Option.isNone_iff_eq_none, decide_eq_true_eq, Bool.not_eq_true', List.all_eq_true, List.contains_iff_mem, Array.any_eq_true'] at this
      obtain ⟨⟨⟨⟨⟨h1, h2⟩, h3⟩, h4⟩, h5⟩, h6⟩ := this
      exact ⟨o, rfl, h1, h2, h3, h4, h5, fun d hd => ⟨(h6 d hd).1, by obtain ⟨e, he, hb⟩ := (h6 d hd).2; exact ⟨e, he, hb.1, hb.2⟩⟩⟩
  have hsinj : ∀ i ∈ rest, ∀ j ∈ rest, i ≠ j → sl i ≠ sl j := by
    intro i hi j hj hne he
    obtain ⟨p, hp, rfl⟩ := List.getElem_of_mem hi
    obtain ⟨q, hq, rfl⟩ := List.getElem_of_mem hj
    have := (List.getElem_inj (h₀ := by simpa using hp) (h₁ := by simpa using hq) hsl).1 (by simpa using he)
    subst this
    exact hne rfl
  have key : ∀ f (done : Nat → Bool) (σ : Nat → Value × Hp) (listed' : Array Bool) (V : Watch) a w, listed'.size = ops.size → (∀ k, listed'.getD k false = (listed.getD k false || (rest.contains k && done k))) → (rest.filter fun k => !done k).length = f →
      (∀ j ∈ rest, done j = true → a.tmps[sl j]? = some (σ j).1 ∧ R j ((dp j).map σ) (σ j) ∧ ∀ d ∈ dp j, done d = true) → (∀ p ∈ V, ∀ w, St w0 w L → p.2 w) → Fits n a g → St w0 w (hsum ((rest.filter done).map fun j => (σ j).2) + L) →
      WG P ops (lift n w0 Q) f V listed' a w := by
    intro f
    induction f with
    | zero =>
      intro done σ listed' V a w hs' hl' hf hd hV ha hst
      have hall : ∀ j ∈ rest, done j = true := by
        intro j hj
        cases hdj : done j with
        | true => rfl
        | false =>
          have := List.eq_nil_of_length_eq_zero hf
          have hm : j ∈ rest.filter fun k => !done k := List.mem_filter.2 ⟨hj, by simp [hdj]⟩
          rw [this] at hm; cases hm
      refine ⟨?_, envF sl σ rest ++ g, _, hend σ fun j hj => (hd j hj (hall j hj)).2.1, ?_, ?_⟩
      · cases hr : Region.ready .any ops listed' with
        | nil => rfl
        | cons i l =>
          obtain ⟨h1, o, ho, _⟩ := mem_ready.1 (by rw [hr]; simp : i ∈ Region.ready .any ops listed')
          have hlt := (Array.getElem?_eq_some_iff.1 ho).1
          have h2 : listed'.getD i false = true := by
            rw [hl' i]
            have := hcov i (List.mem_range.2 hlt)
            simp only [Bool.or_eq_true, List.contains_iff_mem] at this
            rcases this with h | h
            · simp [h, hall i h]
            · simp [h]
          rw [Array.getD_eq_getD_getElem?, Array.getElem?_eq_getElem (by omega : i < listed'.size)] at h1 h2
          simp only [Option.getD_some] at h1 h2
          rw [h1] at h2; cases h2
      · refine ⟨ha.size, ha.nodefer, fun t v hv => ?_⟩
        rcases look_append _ _ _ _ hv with hv | hv
        · obtain ⟨d, hd1, rfl, rfl⟩ := look_envF hv
          exact (hd d hd1 (hall d hd1)).1
        · exact ha.get t v hv
      · rwa [List.filter_eq_self.2 hall] at hst
    | succ f ih =>
      intro done σ listed' V a w hs' hl' hf hd hV ha hst
      refine ⟨fun hnil => ?_, fun i hi => ?_⟩
      · exfalso
        have hex : ∃ j ∈ rest, done j = false := by
          cases hfl : rest.filter fun k => !done k with
          | nil => rw [hfl] at hf; simp at hf
          | cons j l =>
            obtain ⟨h1, h2⟩ := List.mem_filter.1 (by rw [hfl]; simp : j ∈ rest.filter fun k => !done k)
            exact ⟨j, h1, by simpa using h2⟩
        obtain ⟨j, hj, hdj⟩ := hex
        refine topo_ready htopo (fun k hk => by rw [hl' k, hk]; rfl) (fun k hk => ?_) ⟨j, hj, ?_⟩ hnil
        · obtain ⟨o, ho, _⟩ := hone' k hk
          have hlt := (Array.getElem?_eq_some_iff.1 ho).1
          rw [Array.getD_eq_getD_getElem?, Array.getD_eq_getD_getElem?, Array.getElem?_eq_getElem (by omega : k < listed'.size)]; rfl
        · obtain ⟨o, ho, _, _, _, _, h5, _⟩ := hone' j hj
          have hlt := (Array.getElem?_eq_some_iff.1 ho).1
          rw [hl' j, hdj, Bool.and_false, Bool.or_false]
          rw [Array.getD_eq_getD_getElem?, Array.getElem?_eq_getElem (by omega : j < listed.size)] at h5 ⊢
          exact h5
      · obtain ⟨hun, o, ho, hedges⟩ := mem_ready.1 hi
        have hlt := (Array.getElem?_eq_some_iff.1 ho).1
        have hunf : listed'.getD i false = false := by
          rw [Array.getD_eq_getD_getElem?, Array.getElem?_eq_getElem (by omega : i < listed'.size)] at hun ⊢
          exact hun
        have hmem : i ∈ rest := by
          have := hcov i (List.mem_range.2 hlt)
          simp only [Bool.or_eq_true, List.contains_iff_mem] at this
          rcases this with h | h
          · exact h
          · rw [hl' i, h] at hunf; cases hunf
        have hdi : done i = false := by
          rw [hl' i] at hunf
          simp only [Bool.or_eq_false_iff, Bool.and_eq_false_iff] at hunf
          rcases hunf.2 with h | h
          · simp [hmem] at h
          · exact h
        obtain ⟨o', ho', hdst, hgd, hsn, hlk, hunl, hdeps⟩ := hone' i hmem
        obtain rfl : o = o' := Option.some.inj (ho.symm.trans ho')
        have hdd : ∀ d ∈ dp i, d ∈ rest ∧ done d = true := by
          intro d hd1
          obtain ⟨h1, e, he, hb, rfl⟩ := hdeps d hd1
          refine ⟨h1, ?_⟩
          have h2 := hedges e he hb
          rw [hl' e.on] at h2
          obtain ⟨o2, ho2, _, _, _, _, h5, _⟩ := hone' e.on h1
          have hlt2 := (Array.getElem?_eq_some_iff.1 ho2).1
          have h6 : listed.getD e.on false = false := by
            rw [Array.getD_eq_getD_getElem?, Array.getElem?_eq_getElem (by omega : e.on < listed.size)] at h5 ⊢
            exact h5
          rw [h6] at h2
          simpa [h1] using h2
        have hfit : Fits n a (envF sl σ (dp i) ++ g) := by
          refine ⟨ha.size, ha.nodefer, fun t v hv => ?_⟩
          rcases look_append _ _ _ _ hv with hv | hv
          · obtain ⟨d, hd1, rfl, rfl⟩ := look_envF hv
            exact (hd d (hdd d hd1).1 (hdd d hd1).2).1
          · exact ha.get t v hv
        obtain ⟨v, w', L'', hrun, ⟨h, rfl, hR⟩, hst'⟩ := hstep i hmem o ho σ (fun d hd1 => (hd d (hdd d hd1).1 (hdd d hd1).2).2.1) _ o a w n rfl hfit hst
        have hnext : (∀ p ∈ V.past ops i, p.2 w') ∧ WG P ops (lift n w0 Q) f (V.past ops i) (listed'.setIfInBounds i true) (a.put o.dst v) w' := by
          have hp : ∀ p ∈ V.past ops i, ∀ w, St w0 w L → p.2 w := fun p hp => hV p (List.mem_filter.1 hp).1
          refine ⟨fun p hpp => hp p hpp w' (by have := hst'.right; exact this.right), ?_⟩
          have hnot : ∀ j ∈ rest, done j = true → ∀ d ∈ dp j, d ≠ i := fun j hj hdj d hd1 he => by
            subst he; have := (hd j hj hdj).2.2 d hd1; rw [hdi] at this; cases this
          refine ih (fun k => k == i || done k) (fun k => if k = i then (v, h) else σ k) _ _ _ _ (by simpa using hs') (fun k => ?_) ?_ (fun j hj hdj => ?_) hp ?_ ?_
          · by_cases hik : i = k
            · subst hik
              have : (listed'.setIfInBounds i true).getD i false = true := by
                rw [Array.getD_eq_getD_getElem?, Array.getElem?_setIfInBounds, if_pos rfl, if_pos (by omega)]; rfl
              rw [this]; simp [hmem]
            · rw [getD_set_ne false hik, hl' k]
              have : (k == i) = false := by simp [Ne.symm hik]
              rw [this, Bool.false_or]
          · have := (count_done hnd done hdi).1 hmem
            omega
          · by_cases hji : j = i
            · subst hji
              refine ⟨?_, ?_, fun d hd1 => by simp [(hdd d hd1).2]⟩
              · rw [if_pos rfl, hdst]
                simp only [Act.put, Array.getElem?_setIfInBounds]
                rw [if_pos trivial, if_pos (by rw [ha.size]; exact hsn)]
              · rw [if_pos rfl]
                have : (dp j).map (fun k => if k = j then (v, h) else σ k) = (dp j).map σ := List.map_congr_left fun d hd1 => if_neg fun he => by
                  subst he; have := (hdd d hd1).2; rw [hdi] at this; cases this
                rw [this]; exact hR
            · have hdj' : done j = true := by simpa [hji] using hdj
              obtain ⟨q1, q2, q3⟩ := hd j hj hdj'
              refine ⟨?_, ?_, fun d hd1 => by simp [q3 d hd1]⟩
              · rw [if_neg hji, hdst]
                simp only [Act.put, Array.getElem?_setIfInBounds]
                rw [if_neg (hsinj i hmem j hj (Ne.symm hji))]
                exact q1
              · rw [if_neg hji]
                have : (dp j).map (fun k => if k = i then (v, h) else σ k) = (dp j).map σ := List.map_congr_left fun d hd1 => if_neg (hnot j hj hdj' d hd1)
                rw [this]; exact q2
          · refine ⟨by rw [hdst]; simp [Act.put, ha.size], by rw [hdst]; exact ha.nodefer, fun t u hu => ?_⟩
            rw [hdst]
            simp only [Act.put, Array.getElem?_setIfInBounds]
            rw [if_neg (fun he => by rw [he, hu] at hlk; cases hlk)]
            exact ha.get t u hu
          · have := (hsum_done hnd (i := i) (fun j => (σ j).2) (fun j => ((fun k => if k = i then (v, h) else σ k) j).2) done hdi (fun k hk => by simp only [if_neg hk])).1 hmem
            rw [this]
            simp only [if_true]
            rw [hadd_assoc]
            exact hst'
        obtain ⟨dst, op, ty, pos, af, gd⟩ := o
        simp only at hgd
        subst hgd
        unfold wpOp
        simp only [ho, wanted_of (o := ⟨dst, op, ty, pos, af, none⟩) ha rfl, if_true]
        left
        unfold Oper.wp
        rcases hrun with hrun | ⟨hrun, rfl⟩ <;> rw [hrun] <;> exact hnext
  have hlen : ([] : List Nat).length + m = m := by simp
  rw [hlen]
  refine key m (fun _ => false) (fun _ => (undef, 0)) listed (W.at P) a w hsz (fun k => by simp) (by rw [List.filter_eq_self.2 (by simp)]; exact hm) (fun j hj h => by cases h) ?_ ha ?_
  · intro p hp w' hst'
    exact watch_holds hW hst' p hp
  · rw [show rest.filter (fun _ => false) = [] from List.filter_eq_nil_iff.2 (by simp)]
    show St w0 w (0 + L)
    rwa [hzero_add]
end
end Sl
end Go.Proofs.Ytfdimkpanbgffaa
