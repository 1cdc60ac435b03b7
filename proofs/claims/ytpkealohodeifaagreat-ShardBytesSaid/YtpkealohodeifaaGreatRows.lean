/-
  No cell of these rows narrows 'for every input' (looked for: loops, veiled, ifaces, maps, wideKeys, modest, calm, conditions, laid).
  DERIVED. THE GIVEN ROWS OF THIS SEAT. 7 by the template 'for every input the law returns true; each argument reads behind the call as it read before'; 0 by the template 'total and deterministic' (their statements: YtpkealohodeifaaGreatTotals.lean).
  GIVEN WITH THE SEED: the statements are not yours to turn. If you find one false, say at which input.
  Laid BY PROGRAM, IN A SANDBOX (cutbox-rows.mjs): the forced cells as the released guide's own fill.sh prints them over the translation e568e0f62b3c612d… (all of the seat's roots in one cut). By AI agents, Wed Nov 11 2026. No macro, syntax, notation, axiom, sorry.
-/
import Derived.Test.YtpkealohodeifaaGreatChecked
import GoSem.Claim
import GoSem.ClaimJoined
import GoSem.ClaimMapViews
import Derived.JoinedTies
import Derived.KernelRfl
namespace Go.Proofs.YtpkealohodeifaaGreat
/- THE CELL 'sum', in the pinned program and in every row, IS THE sha256 OF THE DUMP (.gsa) THAT YtpkealohodeifaaGreatProg.lean LOADS. Nothing in Lean hashes anything: it is a label: what it is worth is what the hold of that sum in a sandbox is worth. -/
noncomputable def Tryz.pinned : Pinned := { name := "ytpkealohodeifaagreat", sum := "e568e0f62b3c612dcc6cead2ab220a0adf15c31f3544db2e632d83a63bf9f5f3", checked := Tryz.checked }
namespace Rows
def none {H : Type} : Left H := { results := [], args := [] }

/-- 'glebelaw22.ShardBytes': WHATEVER THE INPUT: true; the input reads as it did. -/
def shardBytesSpec : ChangeSpec := { name := "shardBytes", fn := fun _ => fun
  | [d] => { results := [.lit (.bool true)], args := [d] }
  | _ => none }
def shardBytesRow : OpenClaim := { program := "ytpkealohodeifaagreat", sum := "e568e0f62b3c612dcc6cead2ab220a0adf15c31f3544db2e632d83a63bf9f5f3", func := "glebe/glebelaw22.ShardBytes", spec := "shardBytes", inPlace := ["slices.overlaps[int]", "slices.overlaps[glebe/api.Lock]", "slices.overlaps[glebe/api.Prep]", "slices.overlaps[glebe/api.Block]", "slices.overlaps[glebe/api.Kept]", "slices.overlaps[glebe/api.Session]"], unfollowed := true, recurses := true, apart := false }
def ShardBytesSaid : Prop := shardBytesRow.holds Tryz.pinned (OpenSpec.ofChange shardBytesSpec)

/-- ITS FALSE NEIGHBOUR: 'it returns false'. Refute it at one input. -/
def shardBytesWrong : ChangeSpec := { name := "shardBytes", fn := fun _ => fun
  | [d] => { results := [.lit (.bool false)], args := [d] }
  | _ => none }
def ShardBytesWrongFalsely : Prop := shardBytesRow.holds Tryz.pinned (OpenSpec.ofChange shardBytesWrong)

/-- 'glebelaw22.ShardPhases': WHATEVER THE INPUT: true; the input reads as it did. -/
def shardPhasesSpec : ChangeSpec := { name := "shardPhases", fn := fun _ => fun
  | [d1, d2, d3, d4] => { results := [.lit (.bool true)], args := [d1, d2, d3, d4] }
  | _ => none }
def shardPhasesRow : OpenClaim := { program := "ytpkealohodeifaagreat", sum := "e568e0f62b3c612dcc6cead2ab220a0adf15c31f3544db2e632d83a63bf9f5f3", func := "glebe/glebelaw22.ShardPhases", spec := "shardPhases", inPlace := ["slices.overlaps[int]", "slices.overlaps[glebe/api.Lock]", "slices.overlaps[glebe/api.Prep]", "slices.overlaps[glebe/api.Block]", "slices.overlaps[glebe/api.Kept]", "slices.overlaps[glebe/api.Session]"], unfollowed := true, recurses := true, apart := false }
def ShardPhasesSaid : Prop := shardPhasesRow.holds Tryz.pinned (OpenSpec.ofChange shardPhasesSpec)

/-- ITS FALSE NEIGHBOUR: 'it returns false'. Refute it at one input. -/
def shardPhasesWrong : ChangeSpec := { name := "shardPhases", fn := fun _ => fun
  | [d1, d2, d3, d4] => { results := [.lit (.bool false)], args := [d1, d2, d3, d4] }
  | _ => none }
def ShardPhasesWrongFalsely : Prop := shardPhasesRow.holds Tryz.pinned (OpenSpec.ofChange shardPhasesWrong)

/-- 'glebelaw22.ShardReads': WHATEVER THE INPUT: true; the input reads as it did. -/
def shardReadsSpec : ChangeSpec := { name := "shardReads", fn := fun _ => fun
  | [d1, d2, d3, d4] => { results := [.lit (.bool true)], args := [d1, d2, d3, d4] }
  | _ => none }
def shardReadsRow : OpenClaim := { program := "ytpkealohodeifaagreat", sum := "e568e0f62b3c612dcc6cead2ab220a0adf15c31f3544db2e632d83a63bf9f5f3", func := "glebe/glebelaw22.ShardReads", spec := "shardReads", inPlace := ["slices.overlaps[int]", "slices.overlaps[glebe/api.Lock]", "slices.overlaps[glebe/api.Prep]", "slices.overlaps[glebe/api.Block]", "slices.overlaps[glebe/api.Kept]", "slices.overlaps[glebe/api.Session]"], unfollowed := true, recurses := true, apart := false }
def ShardReadsSaid : Prop := shardReadsRow.holds Tryz.pinned (OpenSpec.ofChange shardReadsSpec)

/-- ITS FALSE NEIGHBOUR: 'it returns false'. Refute it at one input. -/
def shardReadsWrong : ChangeSpec := { name := "shardReads", fn := fun _ => fun
  | [d1, d2, d3, d4] => { results := [.lit (.bool false)], args := [d1, d2, d3, d4] }
  | _ => none }
def ShardReadsWrongFalsely : Prop := shardReadsRow.holds Tryz.pinned (OpenSpec.ofChange shardReadsWrong)

/-- 'glebelaw22.ShardOnce': WHATEVER THE INPUT: true; the input reads as it did. -/
def shardOnceSpec : ChangeSpec := { name := "shardOnce", fn := fun _ => fun
  | [d1, d2, d3, d4] => { results := [.lit (.bool true)], args := [d1, d2, d3, d4] }
  | _ => none }
def shardOnceRow : OpenClaim := { program := "ytpkealohodeifaagreat", sum := "e568e0f62b3c612dcc6cead2ab220a0adf15c31f3544db2e632d83a63bf9f5f3", func := "glebe/glebelaw22.ShardOnce", spec := "shardOnce", inPlace := ["slices.overlaps[int]", "slices.overlaps[glebe/api.Lock]", "slices.overlaps[glebe/api.Prep]", "slices.overlaps[glebe/api.Block]", "slices.overlaps[glebe/api.Kept]", "slices.overlaps[glebe/api.Session]"], unfollowed := true, recurses := true, apart := false }
def ShardOnceSaid : Prop := shardOnceRow.holds Tryz.pinned (OpenSpec.ofChange shardOnceSpec)

/-- ITS FALSE NEIGHBOUR: 'it returns false'. Refute it at one input. -/
def shardOnceWrong : ChangeSpec := { name := "shardOnce", fn := fun _ => fun
  | [d1, d2, d3, d4] => { results := [.lit (.bool false)], args := [d1, d2, d3, d4] }
  | _ => none }
def ShardOnceWrongFalsely : Prop := shardOnceRow.holds Tryz.pinned (OpenSpec.ofChange shardOnceWrong)

/-- 'glebelaw22.ShardMoved': WHATEVER THE INPUT: true; the input reads as it did. -/
def shardMovedSpec : ChangeSpec := { name := "shardMoved", fn := fun _ => fun
  | [d1, d2, d3, d4, d5, d6] => { results := [.lit (.bool true)], args := [d1, d2, d3, d4, d5, d6] }
  | _ => none }
def shardMovedRow : OpenClaim := { program := "ytpkealohodeifaagreat", sum := "e568e0f62b3c612dcc6cead2ab220a0adf15c31f3544db2e632d83a63bf9f5f3", func := "glebe/glebelaw22.ShardMoved", spec := "shardMoved", inPlace := ["slices.overlaps[int]", "slices.overlaps[glebe/api.Lock]", "slices.overlaps[glebe/api.Prep]", "slices.overlaps[glebe/api.Block]", "slices.overlaps[glebe/api.Kept]", "slices.overlaps[glebe/api.Session]"], unfollowed := true, recurses := true, apart := false }
def ShardMovedSaid : Prop := shardMovedRow.holds Tryz.pinned (OpenSpec.ofChange shardMovedSpec)

/-- ITS FALSE NEIGHBOUR: 'it returns false'. Refute it at one input. -/
def shardMovedWrong : ChangeSpec := { name := "shardMoved", fn := fun _ => fun
  | [d1, d2, d3, d4, d5, d6] => { results := [.lit (.bool false)], args := [d1, d2, d3, d4, d5, d6] }
  | _ => none }
def ShardMovedWrongFalsely : Prop := shardMovedRow.holds Tryz.pinned (OpenSpec.ofChange shardMovedWrong)

/-- 'glebelaw22.ShardKept': WHATEVER THE INPUT: true; the input reads as it did. -/
def shardKeptSpec : ChangeSpec := { name := "shardKept", fn := fun _ => fun
  | [d1, d2, d3, d4] => { results := [.lit (.bool true)], args := [d1, d2, d3, d4] }
  | _ => none }
def shardKeptRow : OpenClaim := { program := "ytpkealohodeifaagreat", sum := "e568e0f62b3c612dcc6cead2ab220a0adf15c31f3544db2e632d83a63bf9f5f3", func := "glebe/glebelaw22.ShardKept", spec := "shardKept", inPlace := ["slices.overlaps[int]", "slices.overlaps[glebe/api.Lock]", "slices.overlaps[glebe/api.Prep]", "slices.overlaps[glebe/api.Block]", "slices.overlaps[glebe/api.Kept]", "slices.overlaps[glebe/api.Session]"], unfollowed := true, recurses := true, apart := false }
def ShardKeptSaid : Prop := shardKeptRow.holds Tryz.pinned (OpenSpec.ofChange shardKeptSpec)

/-- ITS FALSE NEIGHBOUR: 'it returns false'. Refute it at one input. -/
def shardKeptWrong : ChangeSpec := { name := "shardKept", fn := fun _ => fun
  | [d1, d2, d3, d4] => { results := [.lit (.bool false)], args := [d1, d2, d3, d4] }
  | _ => none }
def ShardKeptWrongFalsely : Prop := shardKeptRow.holds Tryz.pinned (OpenSpec.ofChange shardKeptWrong)

/-- 'glebelaw22.ShardServes': WHATEVER THE INPUT: true; the input reads as it did. -/
def shardServesSpec : ChangeSpec := { name := "shardServes", fn := fun _ => fun
  | [d1, d2, d3, d4, d5] => { results := [.lit (.bool true)], args := [d1, d2, d3, d4, d5] }
  | _ => none }
def shardServesRow : OpenClaim := { program := "ytpkealohodeifaagreat", sum := "e568e0f62b3c612dcc6cead2ab220a0adf15c31f3544db2e632d83a63bf9f5f3", func := "glebe/glebelaw22.ShardServes", spec := "shardServes", inPlace := ["slices.overlaps[int]", "slices.overlaps[glebe/api.Lock]", "slices.overlaps[glebe/api.Prep]", "slices.overlaps[glebe/api.Block]", "slices.overlaps[glebe/api.Kept]", "slices.overlaps[glebe/api.Session]"], unfollowed := true, recurses := true, apart := false }
def ShardServesSaid : Prop := shardServesRow.holds Tryz.pinned (OpenSpec.ofChange shardServesSpec)

/-- ITS FALSE NEIGHBOUR: 'it returns false'. Refute it at one input. -/
def shardServesWrong : ChangeSpec := { name := "shardServes", fn := fun _ => fun
  | [d1, d2, d3, d4, d5] => { results := [.lit (.bool false)], args := [d1, d2, d3, d4, d5] }
  | _ => none }
def ShardServesWrongFalsely : Prop := shardServesRow.holds Tryz.pinned (OpenSpec.ofChange shardServesWrong)

/- THE SECOND FORM. 'bulk': how many values and letters a reading holds, each counted each time it is reached (what is shared counts as often as it is met; a slice's spare places count too). A statement '..UptoSaid' is the law's where the arguments, and the package variables that the reading takes, are together of bulk at most 1048576: NARROWER than '..Said'. Prove '..Said' where nothing that the law and all that it calls make is longer than what came in: it says more and counts as full. Else prove '..UptoSaid'. A law counts once. -/
mutual
def uptoBulk {H : Type} : DataW H → Nat
  | .lit (.string bytes) => bytes.length + 1
  | .lit _ => 1
  | .nil => 1
  | .ptr d => uptoBulk d + 1
  | .slice elems spare => uptoBulkAll elems + uptoBulkAll spare + 1
  | .agg parts => uptoBulkAll parts + 1
  | .iface _ d => uptoBulk d + 1
  | .map entries => uptoBulkEntries entries + 1
  | .held _ => 1
def uptoBulkAll {H : Type} : List (DataW H) → Nat
  | [] => 0
  | d :: r => uptoBulk d + uptoBulkAll r
def uptoBulkEntries {H : Type} : List (Lit × DataW H) → Nat
  | [] => 0
  | x :: r => uptoBulkEntry x + uptoBulkEntries r
def uptoBulkEntry {H : Type} : Lit × DataW H → Nat
  | (.string bytes, d) => bytes.length + uptoBulk d + 1
  | (_, d) => uptoBulk d + 1
 end
def uptoSmall : (H : Type) → List (DataW H) → Bool := fun _ ds => decide (uptoBulkAll ds ≤ 1048576)
def OpenSpec.upto (s : _root_.Go.ChangeSpec) : _root_.Go.OpenSpec := { _root_.Go.OpenSpec.ofChange s with cond := some uptoSmall }

/-- 'glebelaw22.ShardBytes', WHERE WHAT IT READS IS OF BULK AT MOST 1048576: true; the input reads as it did. -/
def shardBytesUptoRow : OpenClaim := { program := "ytpkealohodeifaagreat", sum := "e568e0f62b3c612dcc6cead2ab220a0adf15c31f3544db2e632d83a63bf9f5f3", func := "glebe/glebelaw22.ShardBytes", spec := "shardBytes", inPlace := ["slices.overlaps[int]", "slices.overlaps[glebe/api.Lock]", "slices.overlaps[glebe/api.Prep]", "slices.overlaps[glebe/api.Block]", "slices.overlaps[glebe/api.Kept]", "slices.overlaps[glebe/api.Session]"], unfollowed := true, recurses := true, apart := false, narrowed := true }
def ShardBytesUptoSaid : Prop := shardBytesUptoRow.holds Tryz.pinned (OpenSpec.upto shardBytesSpec)

/-- 'glebelaw22.ShardPhases', WHERE WHAT IT READS IS OF BULK AT MOST 1048576: true; the input reads as it did. -/
def shardPhasesUptoRow : OpenClaim := { program := "ytpkealohodeifaagreat", sum := "e568e0f62b3c612dcc6cead2ab220a0adf15c31f3544db2e632d83a63bf9f5f3", func := "glebe/glebelaw22.ShardPhases", spec := "shardPhases", inPlace := ["slices.overlaps[int]", "slices.overlaps[glebe/api.Lock]", "slices.overlaps[glebe/api.Prep]", "slices.overlaps[glebe/api.Block]", "slices.overlaps[glebe/api.Kept]", "slices.overlaps[glebe/api.Session]"], unfollowed := true, recurses := true, apart := false, narrowed := true }
def ShardPhasesUptoSaid : Prop := shardPhasesUptoRow.holds Tryz.pinned (OpenSpec.upto shardPhasesSpec)

/-- 'glebelaw22.ShardReads', WHERE WHAT IT READS IS OF BULK AT MOST 1048576: true; the input reads as it did. -/
def shardReadsUptoRow : OpenClaim := { program := "ytpkealohodeifaagreat", sum := "e568e0f62b3c612dcc6cead2ab220a0adf15c31f3544db2e632d83a63bf9f5f3", func := "glebe/glebelaw22.ShardReads", spec := "shardReads", inPlace := ["slices.overlaps[int]", "slices.overlaps[glebe/api.Lock]", "slices.overlaps[glebe/api.Prep]", "slices.overlaps[glebe/api.Block]", "slices.overlaps[glebe/api.Kept]", "slices.overlaps[glebe/api.Session]"], unfollowed := true, recurses := true, apart := false, narrowed := true }
def ShardReadsUptoSaid : Prop := shardReadsUptoRow.holds Tryz.pinned (OpenSpec.upto shardReadsSpec)

/-- 'glebelaw22.ShardOnce', WHERE WHAT IT READS IS OF BULK AT MOST 1048576: true; the input reads as it did. -/
def shardOnceUptoRow : OpenClaim := { program := "ytpkealohodeifaagreat", sum := "e568e0f62b3c612dcc6cead2ab220a0adf15c31f3544db2e632d83a63bf9f5f3", func := "glebe/glebelaw22.ShardOnce", spec := "shardOnce", inPlace := ["slices.overlaps[int]", "slices.overlaps[glebe/api.Lock]", "slices.overlaps[glebe/api.Prep]", "slices.overlaps[glebe/api.Block]", "slices.overlaps[glebe/api.Kept]", "slices.overlaps[glebe/api.Session]"], unfollowed := true, recurses := true, apart := false, narrowed := true }
def ShardOnceUptoSaid : Prop := shardOnceUptoRow.holds Tryz.pinned (OpenSpec.upto shardOnceSpec)

/-- 'glebelaw22.ShardMoved', WHERE WHAT IT READS IS OF BULK AT MOST 1048576: true; the input reads as it did. -/
def shardMovedUptoRow : OpenClaim := { program := "ytpkealohodeifaagreat", sum := "e568e0f62b3c612dcc6cead2ab220a0adf15c31f3544db2e632d83a63bf9f5f3", func := "glebe/glebelaw22.ShardMoved", spec := "shardMoved", inPlace := ["slices.overlaps[int]", "slices.overlaps[glebe/api.Lock]", "slices.overlaps[glebe/api.Prep]", "slices.overlaps[glebe/api.Block]", "slices.overlaps[glebe/api.Kept]", "slices.overlaps[glebe/api.Session]"], unfollowed := true, recurses := true, apart := false, narrowed := true }
def ShardMovedUptoSaid : Prop := shardMovedUptoRow.holds Tryz.pinned (OpenSpec.upto shardMovedSpec)

/-- 'glebelaw22.ShardKept', WHERE WHAT IT READS IS OF BULK AT MOST 1048576: true; the input reads as it did. -/
def shardKeptUptoRow : OpenClaim := { program := "ytpkealohodeifaagreat", sum := "e568e0f62b3c612dcc6cead2ab220a0adf15c31f3544db2e632d83a63bf9f5f3", func := "glebe/glebelaw22.ShardKept", spec := "shardKept", inPlace := ["slices.overlaps[int]", "slices.overlaps[glebe/api.Lock]", "slices.overlaps[glebe/api.Prep]", "slices.overlaps[glebe/api.Block]", "slices.overlaps[glebe/api.Kept]", "slices.overlaps[glebe/api.Session]"], unfollowed := true, recurses := true, apart := false, narrowed := true }
def ShardKeptUptoSaid : Prop := shardKeptUptoRow.holds Tryz.pinned (OpenSpec.upto shardKeptSpec)

/-- 'glebelaw22.ShardServes', WHERE WHAT IT READS IS OF BULK AT MOST 1048576: true; the input reads as it did. -/
def shardServesUptoRow : OpenClaim := { program := "ytpkealohodeifaagreat", sum := "e568e0f62b3c612dcc6cead2ab220a0adf15c31f3544db2e632d83a63bf9f5f3", func := "glebe/glebelaw22.ShardServes", spec := "shardServes", inPlace := ["slices.overlaps[int]", "slices.overlaps[glebe/api.Lock]", "slices.overlaps[glebe/api.Prep]", "slices.overlaps[glebe/api.Block]", "slices.overlaps[glebe/api.Kept]", "slices.overlaps[glebe/api.Session]"], unfollowed := true, recurses := true, apart := false, narrowed := true }
def ShardServesUptoSaid : Prop := shardServesUptoRow.holds Tryz.pinned (OpenSpec.upto shardServesSpec)

end Rows
end Go.Proofs.YtpkealohodeifaaGreat
