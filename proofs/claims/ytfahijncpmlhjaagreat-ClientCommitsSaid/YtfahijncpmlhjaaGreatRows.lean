/-
  No cell of these rows narrows 'for every input' (looked for: loops, veiled, ifaces, maps, wideKeys, modest, calm, conditions, laid).
  DERIVED. THE GIVEN ROWS OF THIS SEAT. 5 by the template 'for every input the law returns true; each argument reads behind the call as it read before'; 0 by the template 'total and deterministic' (their statements: YtfahijncpmlhjaaGreatTotals.lean).
  GIVEN WITH THE SEED: the statements are not yours to turn. If you find one false, say at which input.
  Laid BY PROGRAM, IN A SANDBOX (cutbox-rows.mjs): the forced cells as the released guide's own fill.sh prints them over the translation 5aa3e833e6296a62… (all of the seat's roots in one cut). By AI agents, Wed Nov 11 2026. No macro, syntax, notation, axiom, sorry.
-/
import Derived.Test.YtfahijncpmlhjaaGreatChecked
import GoSem.Claim
import GoSem.ClaimJoined
import GoSem.ClaimMapViews
import Derived.JoinedTies
import Derived.KernelRfl
namespace Go.Proofs.YtfahijncpmlhjaaGreat
/- THE CELL 'sum', in the pinned program and in every row, IS THE sha256 OF THE DUMP (.gsa) THAT YtfahijncpmlhjaaGreatProg.lean LOADS. Nothing in Lean hashes anything: it is a label: what it is worth is what the hold of that sum in a sandbox is worth. -/
noncomputable def Tryz.pinned : Pinned := { name := "ytfahijncpmlhjaagreat", sum := "5aa3e833e6296a6235d8fc438f9dd6c368dce46b887fcd045257585b5911e3b0", checked := Tryz.checked }
namespace Rows
def none {H : Type} : Left H := { results := [], args := [] }

/-- 'glebelaw28.ClientReads': WHATEVER THE INPUT: true; the input reads as it did. -/
def clientReadsSpec : ChangeSpec := { name := "clientReads", fn := fun _ => fun
  | [d] => { results := [.lit (.bool true)], args := [d] }
  | _ => none }
def clientReadsRow : OpenClaim := { program := "ytfahijncpmlhjaagreat", sum := "5aa3e833e6296a6235d8fc438f9dd6c368dce46b887fcd045257585b5911e3b0", func := "glebe/glebelaw28.ClientReads", spec := "clientReads", inPlace := ["slices.overlaps[glebe/api.Write]"], unfollowed := true, recurses := true, plainKeys := false, apart := false }
def ClientReadsSaid : Prop := clientReadsRow.holds Tryz.pinned (OpenSpec.ofChange clientReadsSpec)

/-- ITS FALSE NEIGHBOUR: 'it returns false'. Refute it at one input. -/
def clientReadsWrong : ChangeSpec := { name := "clientReads", fn := fun _ => fun
  | [d] => { results := [.lit (.bool false)], args := [d] }
  | _ => none }
def ClientReadsWrongFalsely : Prop := clientReadsRow.holds Tryz.pinned (OpenSpec.ofChange clientReadsWrong)

/-- 'glebelaw28.ClientOnce': WHATEVER THE INPUT: true; the input reads as it did. -/
def clientOnceSpec : ChangeSpec := { name := "clientOnce", fn := fun _ => fun
  | [d1, d2, d3] => { results := [.lit (.bool true)], args := [d1, d2, d3] }
  | _ => none }
def clientOnceRow : OpenClaim := { program := "ytfahijncpmlhjaagreat", sum := "5aa3e833e6296a6235d8fc438f9dd6c368dce46b887fcd045257585b5911e3b0", func := "glebe/glebelaw28.ClientOnce", spec := "clientOnce", inPlace := ["slices.overlaps[glebe/api.Write]"], unfollowed := true, recurses := true, plainKeys := false, apart := false }
def ClientOnceSaid : Prop := clientOnceRow.holds Tryz.pinned (OpenSpec.ofChange clientOnceSpec)

/-- ITS FALSE NEIGHBOUR: 'it returns false'. Refute it at one input. -/
def clientOnceWrong : ChangeSpec := { name := "clientOnce", fn := fun _ => fun
  | [d1, d2, d3] => { results := [.lit (.bool false)], args := [d1, d2, d3] }
  | _ => none }
def ClientOnceWrongFalsely : Prop := clientOnceRow.holds Tryz.pinned (OpenSpec.ofChange clientOnceWrong)

/-- 'glebelaw28.ClientOrder': WHATEVER THE INPUT: true; the input reads as it did. -/
def clientOrderSpec : ChangeSpec := { name := "clientOrder", fn := fun _ => fun
  | [d1, d2, d3] => { results := [.lit (.bool true)], args := [d1, d2, d3] }
  | _ => none }
def clientOrderRow : OpenClaim := { program := "ytfahijncpmlhjaagreat", sum := "5aa3e833e6296a6235d8fc438f9dd6c368dce46b887fcd045257585b5911e3b0", func := "glebe/glebelaw28.ClientOrder", spec := "clientOrder", inPlace := ["slices.overlaps[glebe/api.Write]"], unfollowed := true, recurses := true, plainKeys := false, apart := false }
def ClientOrderSaid : Prop := clientOrderRow.holds Tryz.pinned (OpenSpec.ofChange clientOrderSpec)

/-- ITS FALSE NEIGHBOUR: 'it returns false'. Refute it at one input. -/
def clientOrderWrong : ChangeSpec := { name := "clientOrder", fn := fun _ => fun
  | [d1, d2, d3] => { results := [.lit (.bool false)], args := [d1, d2, d3] }
  | _ => none }
def ClientOrderWrongFalsely : Prop := clientOrderRow.holds Tryz.pinned (OpenSpec.ofChange clientOrderWrong)

/-- 'glebelaw28.ClientCommits': WHATEVER THE INPUT: true; the input reads as it did. -/
def clientCommitsSpec : ChangeSpec := { name := "clientCommits", fn := fun _ => fun
  | [d1, d2, d3] => { results := [.lit (.bool true)], args := [d1, d2, d3] }
  | _ => none }
def clientCommitsRow : OpenClaim := { program := "ytfahijncpmlhjaagreat", sum := "5aa3e833e6296a6235d8fc438f9dd6c368dce46b887fcd045257585b5911e3b0", func := "glebe/glebelaw28.ClientCommits", spec := "clientCommits", inPlace := ["slices.overlaps[glebe/api.Write]"], unfollowed := true, recurses := true, plainKeys := false, apart := false }
def ClientCommitsSaid : Prop := clientCommitsRow.holds Tryz.pinned (OpenSpec.ofChange clientCommitsSpec)

/-- ITS FALSE NEIGHBOUR: 'it returns false'. Refute it at one input. -/
def clientCommitsWrong : ChangeSpec := { name := "clientCommits", fn := fun _ => fun
  | [d1, d2, d3] => { results := [.lit (.bool false)], args := [d1, d2, d3] }
  | _ => none }
def ClientCommitsWrongFalsely : Prop := clientCommitsRow.holds Tryz.pinned (OpenSpec.ofChange clientCommitsWrong)

/-- 'glebelaw28.ClientKnown': WHATEVER THE INPUT: true; the input reads as it did. -/
def clientKnownSpec : ChangeSpec := { name := "clientKnown", fn := fun _ => fun
  | [] => { results := [.lit (.bool true)], args := [] }
  | _ => none }
def clientKnownRow : OpenClaim := { program := "ytfahijncpmlhjaagreat", sum := "5aa3e833e6296a6235d8fc438f9dd6c368dce46b887fcd045257585b5911e3b0", func := "glebe/glebelaw28.ClientKnown", spec := "clientKnown", inPlace := ["slices.overlaps[glebe/api.Write]"], unfollowed := true, recurses := true, plainKeys := false, apart := false }
def ClientKnownSaid : Prop := clientKnownRow.holds Tryz.pinned (OpenSpec.ofChange clientKnownSpec)

/-- ITS FALSE NEIGHBOUR: 'it returns false'. Refute it at one input. -/
def clientKnownWrong : ChangeSpec := { name := "clientKnown", fn := fun _ => fun
  | [] => { results := [.lit (.bool false)], args := [] }
  | _ => none }
def ClientKnownWrongFalsely : Prop := clientKnownRow.holds Tryz.pinned (OpenSpec.ofChange clientKnownWrong)

/- THE SECOND FORM. 'bulk': how many values and letters a reading holds, each counted each time it is reached (what is shared counts as often as it is met; a slice's spare places count too). A statement '..UptoSaid' is the law's where the arguments, and the package variables that the reading takes, are together of bulk at most 1048576: NARROWER than '..Said'. Prove '..Said' where nothing that the law and all that it calls make is longer than what came in: it says more and counts as full. Else prove '..UptoSaid'. A law counts once. -/
mutual
def uptoBulk {H : Type} : DataW H → Nat
  | .lit (.string bytes) => bytes.length + 1
  | .lit _ => 1
  | .nil => 1
  | .ptr d => uptoBulk d + 1
  | .slice elems spare => uptoBulkAll elems + uptoBulkAll spare + 1
  | .agg parts => uptoBulkAll parts + 1
  | .iface _ d => uptoBulk d + 1
  | .map entries => uptoBulkEntries entries + 1
  | .held _ => 1
def uptoBulkAll {H : Type} : List (DataW H) → Nat
  | [] => 0
  | d :: r => uptoBulk d + uptoBulkAll r
def uptoBulkEntries {H : Type} : List (Lit × DataW H) → Nat
  | [] => 0
  | x :: r => uptoBulkEntry x + uptoBulkEntries r
def uptoBulkEntry {H : Type} : Lit × DataW H → Nat
  | (.string bytes, d) => bytes.length + uptoBulk d + 1
  | (_, d) => uptoBulk d + 1
 end
def uptoSmall : (H : Type) → List (DataW H) → Bool := fun _ ds => decide (uptoBulkAll ds ≤ 1048576)
def OpenSpec.upto (s : _root_.Go.ChangeSpec) : _root_.Go.OpenSpec := { _root_.Go.OpenSpec.ofChange s with cond := some uptoSmall }

/-- 'glebelaw28.ClientReads', WHERE WHAT IT READS IS OF BULK AT MOST 1048576: true; the input reads as it did. -/
def clientReadsUptoRow : OpenClaim := { program := "ytfahijncpmlhjaagreat", sum := "5aa3e833e6296a6235d8fc438f9dd6c368dce46b887fcd045257585b5911e3b0", func := "glebe/glebelaw28.ClientReads", spec := "clientReads", inPlace := ["slices.overlaps[glebe/api.Write]"], unfollowed := true, recurses := true, plainKeys := false, apart := false, narrowed := true }
def ClientReadsUptoSaid : Prop := clientReadsUptoRow.holds Tryz.pinned (OpenSpec.upto clientReadsSpec)

/-- 'glebelaw28.ClientOnce', WHERE WHAT IT READS IS OF BULK AT MOST 1048576: true; the input reads as it did. -/
def clientOnceUptoRow : OpenClaim := { program := "ytfahijncpmlhjaagreat", sum := "5aa3e833e6296a6235d8fc438f9dd6c368dce46b887fcd045257585b5911e3b0", func := "glebe/glebelaw28.ClientOnce", spec := "clientOnce", inPlace := ["slices.overlaps[glebe/api.Write]"], unfollowed := true, recurses := true, plainKeys := false, apart := false, narrowed := true }
def ClientOnceUptoSaid : Prop := clientOnceUptoRow.holds Tryz.pinned (OpenSpec.upto clientOnceSpec)

/-- 'glebelaw28.ClientOrder', WHERE WHAT IT READS IS OF BULK AT MOST 1048576: true; the input reads as it did. -/
def clientOrderUptoRow : OpenClaim := { program := "ytfahijncpmlhjaagreat", sum := "5aa3e833e6296a6235d8fc438f9dd6c368dce46b887fcd045257585b5911e3b0", func := "glebe/glebelaw28.ClientOrder", spec := "clientOrder", inPlace := ["slices.overlaps[glebe/api.Write]"], unfollowed := true, recurses := true, plainKeys := false, apart := false, narrowed := true }
def ClientOrderUptoSaid : Prop := clientOrderUptoRow.holds Tryz.pinned (OpenSpec.upto clientOrderSpec)

/-- 'glebelaw28.ClientCommits', WHERE WHAT IT READS IS OF BULK AT MOST 1048576: true; the input reads as it did. -/
def clientCommitsUptoRow : OpenClaim := { program := "ytfahijncpmlhjaagreat", sum := "5aa3e833e6296a6235d8fc438f9dd6c368dce46b887fcd045257585b5911e3b0", func := "glebe/glebelaw28.ClientCommits", spec := "clientCommits", inPlace := ["slices.overlaps[glebe/api.Write]"], unfollowed := true, recurses := true, plainKeys := false, apart := false, narrowed := true }
def ClientCommitsUptoSaid : Prop := clientCommitsUptoRow.holds Tryz.pinned (OpenSpec.upto clientCommitsSpec)

/-- 'glebelaw28.ClientKnown', WHERE WHAT IT READS IS OF BULK AT MOST 1048576: true; the input reads as it did. -/
def clientKnownUptoRow : OpenClaim := { program := "ytfahijncpmlhjaagreat", sum := "5aa3e833e6296a6235d8fc438f9dd6c368dce46b887fcd045257585b5911e3b0", func := "glebe/glebelaw28.ClientKnown", spec := "clientKnown", inPlace := ["slices.overlaps[glebe/api.Write]"], unfollowed := true, recurses := true, plainKeys := false, apart := false, narrowed := true }
def ClientKnownUptoSaid : Prop := clientKnownUptoRow.holds Tryz.pinned (OpenSpec.upto clientKnownSpec)

end Rows
end Go.Proofs.YtfahijncpmlhjaaGreat
