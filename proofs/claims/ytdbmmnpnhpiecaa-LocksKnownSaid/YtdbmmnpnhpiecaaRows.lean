/-
  No cell of these rows narrows 'for every input' (looked for: loops, veiled, ifaces, maps, wideKeys, modest, calm, conditions, laid).
  DERIVED. THE GIVEN ROWS OF THIS SEAT. 4 by the template 'for every input the law returns true; each argument reads behind the call as it read before'; 0 by the template 'total and deterministic' (their statements: YtdbmmnpnhpiecaaTotals.lean).
  GIVEN WITH THE SEED: the statements are not yours to turn. If you find one false, say at which input.
  Laid BY PROGRAM, IN A SANDBOX (cutbox-rows.mjs): the forced cells as the released guide's own fill.sh prints them over the translation d96786be3bdc7a88… (all of the seat's roots in one cut). By AI agents, Wed Nov 11 2026. No macro, syntax, notation, axiom, sorry.
-/
import Derived.Test.YtdbmmnpnhpiecaaChecked
import GoSem.Claim
import GoSem.ClaimJoined
import GoSem.ClaimMapViews
import Derived.JoinedTies
import Derived.KernelRfl
namespace Go.Proofs.Ytdbmmnpnhpiecaa
/- THE CELL 'sum', in the pinned program and in every row, IS THE sha256 OF THE DUMP (.gsa) THAT YtdbmmnpnhpiecaaProg.lean LOADS. Nothing in Lean hashes anything: it is a label: what it is worth is what the hold of that sum in a sandbox is worth. -/
noncomputable def Try.pinned : Pinned := { name := "ytdbmmnpnhpiecaa", sum := "d96786be3bdc7a8858424514b99601c3982385d5625dc2dd132aadd10bc3b20a", checked := Try.checked }
namespace Rows
def none {H : Type} : Left H := { results := [], args := [] }

/-- 'glebelaw20.LocksWounded': WHATEVER THE INPUT: true; the input reads as it did. -/
def locksWoundedSpec : ChangeSpec := { name := "locksWounded", fn := fun _ => fun
  | [d1, d2, d3] => { results := [.lit (.bool true)], args := [d1, d2, d3] }
  | _ => none }
def locksWoundedRow : OpenClaim := { program := "ytdbmmnpnhpiecaa", sum := "d96786be3bdc7a8858424514b99601c3982385d5625dc2dd132aadd10bc3b20a", func := "glebe/glebelaw20.LocksWounded", spec := "locksWounded", inPlace := ["slices.overlaps[glebe/api.Lock]"], unfollowed := true, recurses := true, apart := false }
def LocksWoundedSaid : Prop := locksWoundedRow.holds Try.pinned (OpenSpec.ofChange locksWoundedSpec)

/-- ITS FALSE NEIGHBOUR: 'it returns false'. Refute it at one input. -/
def locksWoundedWrong : ChangeSpec := { name := "locksWounded", fn := fun _ => fun
  | [d1, d2, d3] => { results := [.lit (.bool false)], args := [d1, d2, d3] }
  | _ => none }
def LocksWoundedWrongFalsely : Prop := locksWoundedRow.holds Try.pinned (OpenSpec.ofChange locksWoundedWrong)

/-- 'glebelaw20.LocksSafe': WHATEVER THE INPUT: true; the input reads as it did. -/
def locksSafeSpec : ChangeSpec := { name := "locksSafe", fn := fun _ => fun
  | [d] => { results := [.lit (.bool true)], args := [d] }
  | _ => none }
def locksSafeRow : OpenClaim := { program := "ytdbmmnpnhpiecaa", sum := "d96786be3bdc7a8858424514b99601c3982385d5625dc2dd132aadd10bc3b20a", func := "glebe/glebelaw20.LocksSafe", spec := "locksSafe", inPlace := ["slices.overlaps[glebe/api.Lock]"], unfollowed := true, recurses := true, apart := false }
def LocksSafeSaid : Prop := locksSafeRow.holds Try.pinned (OpenSpec.ofChange locksSafeSpec)

/-- ITS FALSE NEIGHBOUR: 'it returns false'. Refute it at one input. -/
def locksSafeWrong : ChangeSpec := { name := "locksSafe", fn := fun _ => fun
  | [d] => { results := [.lit (.bool false)], args := [d] }
  | _ => none }
def LocksSafeWrongFalsely : Prop := locksSafeRow.holds Try.pinned (OpenSpec.ofChange locksSafeWrong)

/-- 'glebelaw20.LocksTold': WHATEVER THE INPUT: true; the input reads as it did. -/
def locksToldSpec : ChangeSpec := { name := "locksTold", fn := fun _ => fun
  | [d1, d2, d3, d4, d5] => { results := [.lit (.bool true)], args := [d1, d2, d3, d4, d5] }
  | _ => none }
def locksToldRow : OpenClaim := { program := "ytdbmmnpnhpiecaa", sum := "d96786be3bdc7a8858424514b99601c3982385d5625dc2dd132aadd10bc3b20a", func := "glebe/glebelaw20.LocksTold", spec := "locksTold", inPlace := ["slices.overlaps[glebe/api.Lock]"], unfollowed := true, recurses := true, apart := false }
def LocksToldSaid : Prop := locksToldRow.holds Try.pinned (OpenSpec.ofChange locksToldSpec)

/-- ITS FALSE NEIGHBOUR: 'it returns false'. Refute it at one input. -/
def locksToldWrong : ChangeSpec := { name := "locksTold", fn := fun _ => fun
  | [d1, d2, d3, d4, d5] => { results := [.lit (.bool false)], args := [d1, d2, d3, d4, d5] }
  | _ => none }
def LocksToldWrongFalsely : Prop := locksToldRow.holds Try.pinned (OpenSpec.ofChange locksToldWrong)

/-- 'glebelaw20.LocksKnown': WHATEVER THE INPUT: true; the input reads as it did. -/
def locksKnownSpec : ChangeSpec := { name := "locksKnown", fn := fun _ => fun
  | [] => { results := [.lit (.bool true)], args := [] }
  | _ => none }
def locksKnownRow : OpenClaim := { program := "ytdbmmnpnhpiecaa", sum := "d96786be3bdc7a8858424514b99601c3982385d5625dc2dd132aadd10bc3b20a", func := "glebe/glebelaw20.LocksKnown", spec := "locksKnown", inPlace := ["slices.overlaps[glebe/api.Lock]"], unfollowed := true, recurses := true, apart := false }
def LocksKnownSaid : Prop := locksKnownRow.holds Try.pinned (OpenSpec.ofChange locksKnownSpec)

/-- ITS FALSE NEIGHBOUR: 'it returns false'. Refute it at one input. -/
def locksKnownWrong : ChangeSpec := { name := "locksKnown", fn := fun _ => fun
  | [] => { results := [.lit (.bool false)], args := [] }
  | _ => none }
def LocksKnownWrongFalsely : Prop := locksKnownRow.holds Try.pinned (OpenSpec.ofChange locksKnownWrong)

/- THE SECOND FORM. 'bulk': how many values and letters a reading holds, each counted each time it is reached (what is shared counts as often as it is met; a slice's spare places count too). A statement '..UptoSaid' is the law's where the arguments, and the package variables that the reading takes, are together of bulk at most 1048576: NARROWER than '..Said'. Prove '..Said' where nothing that the law and all that it calls make is longer than what came in: it says more and counts as full. Else prove '..UptoSaid'. A law counts once. -/
mutual
def uptoBulk {H : Type} : DataW H → Nat
  | .lit (.string bytes) => bytes.length + 1
  | .lit _ => 1
  | .nil => 1
  | .ptr d => uptoBulk d + 1
  | .slice elems spare => uptoBulkAll elems + uptoBulkAll spare + 1
  | .agg parts => uptoBulkAll parts + 1
  | .iface _ d => uptoBulk d + 1
  | .map entries => uptoBulkEntries entries + 1
  | .held _ => 1
def uptoBulkAll {H : Type} : List (DataW H) → Nat
  | [] => 0
  | d :: r => uptoBulk d + uptoBulkAll r
def uptoBulkEntries {H : Type} : List (Lit × DataW H) → Nat
  | [] => 0
  | x :: r => uptoBulkEntry x + uptoBulkEntries r
def uptoBulkEntry {H : Type} : Lit × DataW H → Nat
  | (.string bytes, d) => bytes.length + uptoBulk d + 1
  | (_, d) => uptoBulk d + 1
 end
def uptoSmall : (H : Type) → List (DataW H) → Bool := fun _ ds => decide (uptoBulkAll ds ≤ 1048576)
def OpenSpec.upto (s : _root_.Go.ChangeSpec) : _root_.Go.OpenSpec := { _root_.Go.OpenSpec.ofChange s with cond := some uptoSmall }

/-- 'glebelaw20.LocksWounded', WHERE WHAT IT READS IS OF BULK AT MOST 1048576: true; the input reads as it did. -/
def locksWoundedUptoRow : OpenClaim := { program := "ytdbmmnpnhpiecaa", sum := "d96786be3bdc7a8858424514b99601c3982385d5625dc2dd132aadd10bc3b20a", func := "glebe/glebelaw20.LocksWounded", spec := "locksWounded", inPlace := ["slices.overlaps[glebe/api.Lock]"], unfollowed := true, recurses := true, apart := false, narrowed := true }
def LocksWoundedUptoSaid : Prop := locksWoundedUptoRow.holds Try.pinned (OpenSpec.upto locksWoundedSpec)

/-- 'glebelaw20.LocksSafe', WHERE WHAT IT READS IS OF BULK AT MOST 1048576: true; the input reads as it did. -/
def locksSafeUptoRow : OpenClaim := { program := "ytdbmmnpnhpiecaa", sum := "d96786be3bdc7a8858424514b99601c3982385d5625dc2dd132aadd10bc3b20a", func := "glebe/glebelaw20.LocksSafe", spec := "locksSafe", inPlace := ["slices.overlaps[glebe/api.Lock]"], unfollowed := true, recurses := true, apart := false, narrowed := true }
def LocksSafeUptoSaid : Prop := locksSafeUptoRow.holds Try.pinned (OpenSpec.upto locksSafeSpec)

/-- 'glebelaw20.LocksTold', WHERE WHAT IT READS IS OF BULK AT MOST 1048576: true; the input reads as it did. -/
def locksToldUptoRow : OpenClaim := { program := "ytdbmmnpnhpiecaa", sum := "d96786be3bdc7a8858424514b99601c3982385d5625dc2dd132aadd10bc3b20a", func := "glebe/glebelaw20.LocksTold", spec := "locksTold", inPlace := ["slices.overlaps[glebe/api.Lock]"], unfollowed := true, recurses := true, apart := false, narrowed := true }
def LocksToldUptoSaid : Prop := locksToldUptoRow.holds Try.pinned (OpenSpec.upto locksToldSpec)

/-- 'glebelaw20.LocksKnown', WHERE WHAT IT READS IS OF BULK AT MOST 1048576: true; the input reads as it did. -/
def locksKnownUptoRow : OpenClaim := { program := "ytdbmmnpnhpiecaa", sum := "d96786be3bdc7a8858424514b99601c3982385d5625dc2dd132aadd10bc3b20a", func := "glebe/glebelaw20.LocksKnown", spec := "locksKnown", inPlace := ["slices.overlaps[glebe/api.Lock]"], unfollowed := true, recurses := true, apart := false, narrowed := true }
def LocksKnownUptoSaid : Prop := locksKnownUptoRow.holds Try.pinned (OpenSpec.upto locksKnownSpec)

end Rows
end Go.Proofs.Ytdbmmnpnhpiecaa
