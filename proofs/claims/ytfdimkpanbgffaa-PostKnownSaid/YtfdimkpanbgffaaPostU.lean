/-
  Calls that a program built itself, handed to the laws: a call is walked anew from the world in which it begins.
-/
import Derived.Test.YtfdimkpanbgffaaPostT
namespace Go.Proofs.Ytfdimkpanbgffaa
open Go Go.RowKit
namespace Sl
set_option linter.unusedVariables false
set_option linter.unusedSimpArgs false
/-- A contract that asks only what may be read of the world in which the call begins. -/
theorem Spec.rebase {P : Program} {w0 : World} {f : FuncId} {args : List Value} {L : Hp} {v : Value} (h : ∀ w1, St w0 w1 L → Spec P w1 f args 0 (fun r h' => r = v ∧ 0 = h')) : Spec P w0 f args L (fun r h' => r = v ∧ L = h') := by
  intro w fr hw
  refine (h w hw.left w 0 (by rw [hzero_add]; exact St.start w)).mono ?_
  rintro e w' ⟨u, h', he, ⟨rfl, rfl⟩, hst⟩
  exact ⟨_, L, he, ⟨rfl, rfl⟩, hw.below.trans (hst.below.mono hw.below.size), hw.sat.mono fun k _ hk => hst.below.block k hk⟩
theorem Reads.rebase {w0 w : World} {L : Hp} {ad : Addr} {v : Value} (h : Reads w0 L ad v) (hw : St w0 w L) : Reads w 0 ad v := reads_base (h w hw)
theorem RdRow.rebase {w0 w : World} {L : Hp} {size : Nat} {v : Value} {xs : List (List Value)} (h : RdRow w0 L size v xs) (hw : St w0 w L) : RdRow w 0 size v xs :=
  let ⟨ad, c, e, h⟩ := h; ⟨ad, c, e, h.1, fun i x hx => let ⟨b, off, e, hr⟩ := h.2 i x hx; ⟨b, off, e, fun j u hu => (hr j u hu).rebase hw⟩⟩
def RdOpL (w0 : World) (L : Hp) (o : OpA) (e : List Value) : Prop := ∃ vb, e = [.int .i64 o.kind, .int .i64 o.x, .int .i64 o.y, vb] ∧ RdRow w0 L 1 vb (encB o.data) ∧ o.data.length ≤ 140737488355328 ∧ o.y ≤ 9223372036854775807
def RdOpsL (w0 : World) (L : Hp) (v : Value) (os : List OpA) : Prop := ∃ es, RdRow w0 L 4 v es ∧ es.length = os.length ∧ ∀ (i : Nat) (o : OpA), os[i]? = some o → ∃ e, es[i]? = some e ∧ RdOpL w0 L o e
theorem RdOpsL.rebase {w0 w : World} {L : Hp} {v : Value} {os : List OpA} (h : RdOpsL w0 L v os) (hw : St w0 w L) : RdOps w v os :=
  let ⟨es, hr, hl, ho⟩ := h
  ⟨es, hr.rebase hw, hl, fun i o hi => let ⟨e, he, vb, e1, h1, h2, h3⟩ := ho i o hi; ⟨e, he, vb, e1, h1.rebase hw, h2, h3⟩⟩
theorem RdOpsL.frame {w0 : World} {X L R : Hp} [hf : FrameI X L R] {v : Value} {os : List OpA} (h : RdOpsL w0 X v os) : RdOpsL w0 L v os :=
  let ⟨es, hr, hl, ho⟩ := h
  ⟨es, hr.frame (R := R), hl, fun i o hi => let ⟨e, he, vb, e1, h1, h2⟩ := ho i o hi; ⟨e, he, vb, e1, h1.frame (R := R), h2⟩⟩
theorem RdOpsL.take {w0 : World} {L : Hp} {ad : Option Addr} {n c : Nat} {os : List OpA} (h : RdOpsL w0 L (.slice ad n c) os) {m : Nat} (hm : m ≤ os.length) : RdOpsL w0 L (.slice ad m c) (os.take m) := by
  obtain ⟨es, hr, hl, ho⟩ := h
  refine ⟨es.take m, hr.take (by omega), by simp [hl], fun i o hi => ?_⟩
  rw [List.getElem?_take] at hi
  split at hi
  · rename_i hlt
    obtain ⟨e, he, hx⟩ := ho i o hi
    exact ⟨e, by rw [List.getElem?_take, if_pos hlt]; exact he, hx⟩
  · cases hi
theorem runs_at (w0 : World) (L : Hp) (v : Value) (os : List OpA) (hv : RdOpsL w0 L v os) (hl : os.length ≤ 17592186044416) (hB : ∀ o ∈ os, InB o.data) : Spec Try.prog w0 8 [v] L (fun r h' => r = .bool true ∧ L = h') :=
  .rebase fun w1 hw => postRuns_spec w1 v os (hv.rebase hw) hl hB
theorem keeps_at (w0 : World) (L : Hp) (v : Value) (os : List OpA) (hv : RdOpsL w0 L v os) (hl : os.length ≤ 17592186044416) : Spec Try.prog w0 9 [v] L (fun r h' => r = .bool true ∧ L = h') :=
  .rebase fun w1 hw => postKeeps_spec w1 v os (hv.rebase hw) hl
theorem cuts_at (w0 : World) (L : Hp) (v : Value) (os : List OpA) (a b c : Int) (vd : Value) (data : List Int) (hv : RdOpsL w0 L v os) (hl : os.length ≤ 17592186044416) (hvd : RdRow w0 L 1 vd (encB data)) (hdl : data.length ≤ 140737488355328) :
    Spec Try.prog w0 7 [v, .int .i64 a, .int .i64 b, .int .i64 c, vd] L (fun r h' => r = .bool true ∧ L = h') :=
  .rebase fun w1 hw => postCuts_spec w1 v os a b c vd data (hv.rebase hw) hl (hvd.rebase hw) hdl
/-! ### A list of calls in memory -/
def opRow (o : OpA) (vb : Value) : List Value := [.int .i64 o.kind, .int .i64 o.x, .int .i64 o.y, vb]
def isOp (o : OpA) (e : List Value) (h : Hp) : Prop := ∃ vb, e = opRow o vb ∧ Bytes o.data vb h
def opsAt (os : List OpA) (v : Value) (h : Hp) : Prop := nestAt isOp 59 4 os v h
theorem op_one (o : OpA) (e : List Value) (h : Hp) (hp : isOp o e h) : ∀ u ∈ e, u.oneCell' = true := by
  obtain ⟨vb, rfl, hb⟩ := hp
  obtain ⟨a, c, rfl⟩ := hb.shape
  intro u hu
  simp only [opRow, List.mem_cons, List.not_mem_nil, or_false] at hu
  rcases hu with rfl | rfl | rfl | rfl <;> rfl
theorem isOp_nil (k x y : Int) : isOp ⟨k, x, y, []⟩ [.int .i64 k, .int .i64 x, .int .i64 y, .slice none 0 0] 0 := ⟨_, rfl, isRow_empty _ _ _⟩
theorem isOp_bytes (k x y : Int) (l : List Int) (b n : Nat) (hn : n = l.length) (hs : l.length ≤ 9000000000000000000) : isOp ⟨k, x, y, l⟩ [.int .i64 k, .int .i64 x, .int .i64 y, .slice (some ⟨b, 0, none⟩) n n] (bytesAt b l) := by
  subst hn
  exact ⟨_, rfl, bytesAt_row hs⟩
theorem opsAt.rd {w0 : World} {os : List OpA} {v : Value} {h : Hp} (H : opsAt os v h) (hb : ∀ o ∈ os, o.data.length ≤ 140737488355328 ∧ o.y ≤ 9223372036854775807) : RdOpsL w0 h v os := by
  obtain ⟨es, hs, h0, hr, hn, rfl⟩ := H
  refine ⟨es, hr.rd (R := hsum hs), hn.length.1, fun i o ho => ?_⟩
  obtain ⟨e, hh, he, hhs, vb, rfl, hby⟩ := hn.get ho
  refine ⟨_, he, vb, rfl, ?_, hb o (List.mem_of_getElem? ho)⟩
  rw [hsum_get hhs]
  exact hby.rd (hf := by infer_instance)
theorem InB_nil : InB [] := by simp [InB]
theorem u8_wrap_in (n : Int) : 0 ≤ IntKind.u8.wrap n ∧ IntKind.u8.wrap n < 256 := by
  have h : IntKind.u8.wrap n = n % 256 := by
    simp only [IntKind.wrap, IntKind.signed, IntKind.bits]
    simp
  rw [h]
  exact ⟨Int.emod_nonneg _ (by decide), Int.emod_lt_of_pos _ (by decide)⟩
end Sl
end Go.Proofs.Ytfdimkpanbgffaa
