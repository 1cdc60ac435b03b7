/-
  nodeKnown.proved: for all that is handed in the law function returns true, and what it is given reads as it did. No condition. (Also: Open, NkIn, CNodeKnown.)
-/
import Derived.Test.YtnkiahopaaibhaaGreatNk1
import Derived.Deep.Slices
import Derived.Deep.Strs
import Derived.Lib.SmallJoins
import Derived.ChangeArms
import Derived.SizedLaws
import Derived.Test.YtnkiahopaaibhaaGreatRows
import Derived.WalkKit
import Derived.ProofKit
import Derived.OpenShut
import Derived.ShutString
import Derived.ChangeOld
import Derived.Below
import Derived.Test.YtnkiahopaaibhaaGreatNk5
set_option linter.unusedVariables false
set_option linter.unusedSimpArgs false
namespace Go.Proofs.YtnkiahopaaibhaaGreat
open Go Go.RowKit Go.ChangeShapes Go.WideShapes Go.ChangeAt Go.Deep
namespace Sl
end Sl
end Go.Proofs.YtnkiahopaaibhaaGreat
namespace Go.Proofs.YtnkiahopaaibhaaGreat.nkIn
open Sl
open Go.ChangeShapes Go.WideShapes Go.ChangeAt Go.RowKit Go.Deep Go.Joins
theorem own :ownKnob Tryz.prog.godebug=none:=by kernel_rfl
end Go.Proofs.YtnkiahopaaibhaaGreat.nkIn
namespace Go.Proofs.YtnkiahopaaibhaaGreat.nodeKnown
open Sl nkIn
open Go.ChangeShapes Go.WideShapes Go.ChangeAt Go.RowKit Go.Deep
theorem walk (w:World)  :
  Calls Tryz.prog 4 #[] w fun e w'=>e=.returned (.bool true)∧Below w.heap.size w w':=by
 have h:=nodeKnown_spec w  w 0 (by rw [jX]; exact St.start w)
 refine h.mono ?_
 rintro e w' ⟨v,h',rfl,rfl,hst⟩
 exact ⟨rfl,hst.below⟩
set_option maxRecDepth 100000 in
theorem lifted (os:Os) (started:os.Started) (H:Type) (enc:TypeId × Value→H) :
  ReturnsInHanded {} Tryz.checked os 4 .any (Rows.nodeKnownSpec.pre6 enc Tryz.prog Tryz.f4 Rows.nodeKnownRow.domain false) (Rows.nodeKnownSpec.post enc Tryz.prog Tryz.f4 false true false false):=by
 refine returnsInHanded_of_change_sized (C:=Tryz.checked) own started (by kernel_rfl) Tryz.func4
  (ChangeSpec.witness6 (enc:=enc) (C:=Tryz.checked) false ⟨#[],#[],[]⟩ 8 (by kernel_rfl) (by kernel_rfl) (by kernel_rfl) (by kernel_rfl)) ?_
 intro W base args ds gs before hval0 hW hcnd hsz0 _
 have hsz:(DataW.weightsEach Tryz.prog (Tryz.f4.params.toList++Rows.nodeKnownSpec.plain.varTypes Tryz.prog) (ds++gs)).all (·≤reachBytes)=true:=hsz0
 clear hsz0
 have hval:∀ (j:Nat) t v,Tryz.f4.params[j]?=some t→args[j]?=some v→Value.okWide Tryz.prog W .any base t v:=hval0
 have hW':=hW
 obtain ⟨p,q,hA0,hV,rfl,hfz,hnd⟩:=hW
 have hA:DataW.TrodAll enc Tryz.prog W 0 (fun _=>true) true Tryz.f4.params.toList args.toList ds p:=hA0
 rw [Tryz.params4] at hA hval
 obtain ⟨rfl,rfl,rfl⟩:=trodAll_none hA
 obtain ⟨rfl,rfl⟩:=trodVars_none hV
 clear hA0 hval0 hsz
 simp only [List.append_nil] at hW'
 refine (walk W ).mono fun e W' ⟨he,bel⟩=>?_
 subst he
 exact ⟨_,rfl,_,_,_,[],_,[],hW',trodAll_mk1 (shut_bool Tryz.underlying4 _),trodAll_mk0,rfl,bel.frame _,fun h=>by cases h⟩
def j1 (P:Program) (f:FuncId) (fn:Func) (s:ChangeSpec) (c:OpenClaim):Bool:=laidOutB P
def j2 (P:Program) (f:FuncId) (fn:Func) (s:ChangeSpec) (c:OpenClaim):Bool:=mapsRowed P
def j9 (P:Program) (f:FuncId) (fn:Func) (s:ChangeSpec) (c:OpenClaim):Bool:=(c.inPlace==P.inPlace f)
def j10 (P:Program) (f:FuncId) (fn:Func) (s:ChangeSpec) (c:OpenClaim):Bool:=(c.unfollowed==P.unfollowed f)
def j11 (P:Program) (f:FuncId) (fn:Func) (s:ChangeSpec) (c:OpenClaim):Bool:=(c.recurses==P.recurses f)
def j12 (P:Program) (f:FuncId) (fn:Func) (s:ChangeSpec) (c:OpenClaim):Bool:=(c.named==P.varsNamed f)
def j22 (P:Program) (f:FuncId) (fn:Func) (s:ChangeSpec) (c:OpenClaim):Bool:=(c.plainKeys==P.plainKeys)
def j24 (P:Program) (f:FuncId) (fn:Func) (s:ChangeSpec) (c:OpenClaim):Bool:=P.stopsHeard
def j25 (P:Program) (f:FuncId) (fn:Func) (s:ChangeSpec) (c:OpenClaim):Bool:=P.mayEnter
def j26 (P:Program) (f:FuncId) (fn:Func) (s:ChangeSpec) (c:OpenClaim):Bool:=(c.lifted==P.liftsFinal)
def j27 (P:Program) (f:FuncId) (fn:Func) (s:ChangeSpec) (c:OpenClaim):Bool:=(P.make==some c.make)
def jr (P:Program) (f:FuncId) (fn:Func) (s:ChangeSpec) (c:OpenClaim):Bool:=c.wf (OpenSpec.ofChange s)&&fn.params.all (P.readableRec ·)&&namedTie P c.named s.vars&&(c.stops==[])&&(P.stops==[])&&(c.knobs==[])&&(P.stopKnobs==[])&&(c.maps==(fn.params.toList++s.plain.varTypes P).any (P.mapsRec ·))&&(c.ifaces==(fn.params.toList++s.plain.varTypes P).any (P.ifacesRec ·))&&(c.mapsOut==P.mapsAmong fn.resultTypes.toList)&&(c.loops==(fn.params.toList++s.plain.varTypes P).any (P.loopsFrom ·))&&(c.wideKeys==(fn.params.toList++s.plain.varTypes P++fn.resultTypes.toList).any (P.wideKeysFrom ·))&&s.vars.all (P.varReadable ·)&&fn.resultTypes.all (fun t=>P.readableRec t&&decide (t<P.types.size))&&(c.ifacesOut==fn.resultTypes.toList.any (P.ifacesRec ·))&&(c.loopsOut==fn.resultTypes.toList.any (P.loopsFrom ·))&&c.shortTexts.isNone&&(c.kinds==(if c.domain.isEmpty then [] else fn.params.toList.map fun t=>match P.underlying t with|some (.int k)=>some k|_=>none))&&(c.pinned==c.pinnedBy)&&(c.veiled==(fn.params.toList++s.plain.varTypes P++fn.resultTypes.toList).any (P.veiledRec ·))&&c.veiledFits P fn.params.toList (fn.params.toList++s.plain.varTypes P++fn.resultTypes.toList)
theorem joined {P:Program} {f:FuncId} {fn:Func} {s:ChangeSpec} {c:OpenClaim} (hr:jr P f fn s c=true) (h1:j1 P f fn s c=true) (h2:j2 P f fn s c=true) (h9:j9 P f fn s c=true) (h10:j10 P f fn s c=true) (h11:j11 P f fn s c=true) (h12:j12 P f fn s c=true) (h22:j22 P f fn s c=true) (h24:j24 P f fn s c=true) (h25:j25 P f fn s c=true) (h26:j26 P f fn s c=true) (h27:j27 P f fn s c=true):joinedFacts P f fn s c=true:=by
 unfold jr at hr
 unfold j1 at h1
 unfold j2 at h2
 unfold j9 at h9
 unfold j10 at h10
 unfold j11 at h11
 unfold j12 at h12
 unfold j22 at h22
 unfold j24 at h24
 unfold j25 at h25
 unfold j26 at h26
 unfold j27 at h27
 unfold joinedFacts
 simp only [Bool.and_eq_true] at hr ⊢
 obtain ⟨⟨⟨⟨⟨⟨⟨⟨⟨⟨⟨⟨⟨⟨⟨⟨⟨⟨⟨⟨r0,r3⟩,r4⟩,r5⟩,r6⟩,r7⟩,r8⟩,r13⟩,r14⟩,r15⟩,r16⟩,r17⟩,r18⟩,r19⟩,r20⟩,r21⟩,r23⟩,r28⟩,r29⟩,r30⟩,r31⟩:=hr
 exact ⟨⟨⟨⟨⟨⟨⟨⟨⟨⟨⟨⟨⟨⟨⟨⟨⟨⟨⟨⟨⟨⟨⟨⟨⟨⟨⟨⟨⟨⟨⟨r0,h1⟩,h2⟩,r3⟩,r4⟩,r5⟩,r6⟩,r7⟩,r8⟩,h9⟩,h10⟩,h11⟩,h12⟩,r13⟩,r14⟩,r15⟩,r16⟩,r17⟩,r18⟩,r19⟩,r20⟩,r21⟩,h22⟩,r23⟩,h24⟩,h25⟩,h26⟩,h27⟩,r28⟩,r29⟩,r30⟩,r31⟩
theorem fact1 :j1 Tryz.prog 4 Tryz.f4 Rows.nodeKnownSpec Rows.nodeKnownRow=true:=by kernel_rfl
theorem fact2 :j2 Tryz.prog 4 Tryz.f4 Rows.nodeKnownSpec Rows.nodeKnownRow=true:=by kernel_rfl
theorem fact9 :j9 Tryz.prog 4 Tryz.f4 Rows.nodeKnownSpec Rows.nodeKnownRow=true:=by kernel_rfl
theorem fact10 :j10 Tryz.prog 4 Tryz.f4 Rows.nodeKnownSpec Rows.nodeKnownRow=true:=by kernel_rfl
theorem fact11 :j11 Tryz.prog 4 Tryz.f4 Rows.nodeKnownSpec Rows.nodeKnownRow=true:=by kernel_rfl
theorem fact12 :j12 Tryz.prog 4 Tryz.f4 Rows.nodeKnownSpec Rows.nodeKnownRow=true:=by kernel_rfl
theorem fact22 :j22 Tryz.prog 4 Tryz.f4 Rows.nodeKnownSpec Rows.nodeKnownRow=true:=by kernel_rfl
theorem fact24 :j24 Tryz.prog 4 Tryz.f4 Rows.nodeKnownSpec Rows.nodeKnownRow=true:=by kernel_rfl
theorem fact25 :j25 Tryz.prog 4 Tryz.f4 Rows.nodeKnownSpec Rows.nodeKnownRow=true:=by kernel_rfl
theorem fact26 :j26 Tryz.prog 4 Tryz.f4 Rows.nodeKnownSpec Rows.nodeKnownRow=true:=by kernel_rfl
theorem fact27 :j27 Tryz.prog 4 Tryz.f4 Rows.nodeKnownSpec Rows.nodeKnownRow=true:=by kernel_rfl
theorem factr :jr Tryz.prog 4 Tryz.f4 Rows.nodeKnownSpec Rows.nodeKnownRow=true:=by kernel_rfl
theorem over :Rows.nodeKnownRow.holds Tryz.pinned (OpenSpec.ofChange Rows.nodeKnownSpec) :=
 OpenClaim.holds_of_wide 4 Tryz.f4 O O O O O O O ⟨rfl,rfl,rfl,rfl,rfl⟩ rfl O O O O (by kernel_rfl) Tryz.func4 (joined factr fact1 fact2 fact9 fact10 fact11 fact12 fact22 fact24 fact25 fact26 fact27)
  (of_decide_eq_true (by kernel_rfl)) (by unfold Func.isWrapper; first|(rw [if_pos (by decide +kernel)]; kernel_rfl)|(rw [if_neg (by decide +kernel)]; exact ⟨rfl,rfl⟩))
  (fun os started H enc _=>lifted os started H enc)
theorem proved :Rows.NodeKnownSaid:=over
end Go.Proofs.YtnkiahopaaibhaaGreat.nodeKnown
