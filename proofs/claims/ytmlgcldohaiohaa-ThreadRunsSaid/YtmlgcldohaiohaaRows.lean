/-
  No cell of these rows narrows 'for every input' (looked for: loops, veiled, ifaces, maps, wideKeys, modest, calm, conditions, laid).
  DERIVED. THE GIVEN ROWS OF THIS SEAT. 5 by the template 'for every input the law returns true; each argument reads behind the call as it read before'; 0 by the template 'total and deterministic' (their statements: YtmlgcldohaiohaaTotals.lean).
  GIVEN WITH THE SEED: the statements are not yours to turn. If you find one false, say at which input.
  Laid BY PROGRAM, IN A SANDBOX (cutbox-rows.mjs): the forced cells as the released guide's own fill.sh prints them over the translation 3a98b9e50509ae8c… (all of the seat's roots in one cut). By AI agents, Wed Nov 11 2026. No macro, syntax, notation, axiom, sorry.
-/
import Derived.Test.YtmlgcldohaiohaaChecked
import GoSem.Claim
import GoSem.ClaimJoined
import GoSem.ClaimMapViews
import Derived.JoinedTies
import Derived.KernelRfl
namespace Go.Proofs.Ytmlgcldohaiohaa
/- THE CELL 'sum', in the pinned program and in every row, IS THE sha256 OF THE DUMP (.gsa) THAT YtmlgcldohaiohaaProg.lean LOADS. Nothing in Lean hashes anything: it is a label: what it is worth is what the hold of that sum in a sandbox is worth. -/
noncomputable def Try.pinned : Pinned := { name := "ytmlgcldohaiohaa", sum := "3a98b9e50509ae8ccb03c592fb03f73e577d5ad3d32a212d9ff8b0e13fe6d450", checked := Try.checked }
namespace Rows
def none {H : Type} : Left H := { results := [], args := [] }

/-- 'hawthornlaw06.ThreadTurns': WHATEVER THE INPUT: true; the input reads as it did. -/
def threadTurnsSpec : ChangeSpec := { name := "threadTurns", fn := fun _ => fun
  | [d1, d2] => { results := [.lit (.bool true)], args := [d1, d2] }
  | _ => none }
def threadTurnsRow : OpenClaim := { program := "ytmlgcldohaiohaa", sum := "3a98b9e50509ae8ccb03c592fb03f73e577d5ad3d32a212d9ff8b0e13fe6d450", func := "hawthorn/hawthornlaw06.ThreadTurns", spec := "threadTurns", apart := false }
def ThreadTurnsSaid : Prop := threadTurnsRow.holds Try.pinned (OpenSpec.ofChange threadTurnsSpec)

/-- ITS FALSE NEIGHBOUR: 'it returns false'. Refute it at one input. -/
def threadTurnsWrong : ChangeSpec := { name := "threadTurns", fn := fun _ => fun
  | [d1, d2] => { results := [.lit (.bool false)], args := [d1, d2] }
  | _ => none }
def ThreadTurnsWrongFalsely : Prop := threadTurnsRow.holds Try.pinned (OpenSpec.ofChange threadTurnsWrong)

/-- 'hawthornlaw06.ThreadApart': WHATEVER THE INPUT: true; the input reads as it did. -/
def threadApartSpec : ChangeSpec := { name := "threadApart", fn := fun _ => fun
  | [d1, d2] => { results := [.lit (.bool true)], args := [d1, d2] }
  | _ => none }
def threadApartRow : OpenClaim := { program := "ytmlgcldohaiohaa", sum := "3a98b9e50509ae8ccb03c592fb03f73e577d5ad3d32a212d9ff8b0e13fe6d450", func := "hawthorn/hawthornlaw06.ThreadApart", spec := "threadApart", unfollowed := true, recurses := true, apart := false }
def ThreadApartSaid : Prop := threadApartRow.holds Try.pinned (OpenSpec.ofChange threadApartSpec)

/-- ITS FALSE NEIGHBOUR: 'it returns false'. Refute it at one input. -/
def threadApartWrong : ChangeSpec := { name := "threadApart", fn := fun _ => fun
  | [d1, d2] => { results := [.lit (.bool false)], args := [d1, d2] }
  | _ => none }
def ThreadApartWrongFalsely : Prop := threadApartRow.holds Try.pinned (OpenSpec.ofChange threadApartWrong)

/-- 'hawthornlaw06.ThreadRuns': WHATEVER THE INPUT: true; the input reads as it did. -/
def threadRunsSpec : ChangeSpec := { name := "threadRuns", fn := fun _ => fun
  | [d1, d2, d3] => { results := [.lit (.bool true)], args := [d1, d2, d3] }
  | _ => none }
def threadRunsRow : OpenClaim := { program := "ytmlgcldohaiohaa", sum := "3a98b9e50509ae8ccb03c592fb03f73e577d5ad3d32a212d9ff8b0e13fe6d450", func := "hawthorn/hawthornlaw06.ThreadRuns", spec := "threadRuns", unfollowed := true, recurses := true, apart := false }
def ThreadRunsSaid : Prop := threadRunsRow.holds Try.pinned (OpenSpec.ofChange threadRunsSpec)

/-- ITS FALSE NEIGHBOUR: 'it returns false'. Refute it at one input. -/
def threadRunsWrong : ChangeSpec := { name := "threadRuns", fn := fun _ => fun
  | [d1, d2, d3] => { results := [.lit (.bool false)], args := [d1, d2, d3] }
  | _ => none }
def ThreadRunsWrongFalsely : Prop := threadRunsRow.holds Try.pinned (OpenSpec.ofChange threadRunsWrong)

/-- 'hawthornlaw06.ThreadRoots': WHATEVER THE INPUT: true; the input reads as it did. -/
def threadRootsSpec : ChangeSpec := { name := "threadRoots", fn := fun _ => fun
  | [d1, d2, d3] => { results := [.lit (.bool true)], args := [d1, d2, d3] }
  | _ => none }
def threadRootsRow : OpenClaim := { program := "ytmlgcldohaiohaa", sum := "3a98b9e50509ae8ccb03c592fb03f73e577d5ad3d32a212d9ff8b0e13fe6d450", func := "hawthorn/hawthornlaw06.ThreadRoots", spec := "threadRoots", unfollowed := true, recurses := true, apart := false }
def ThreadRootsSaid : Prop := threadRootsRow.holds Try.pinned (OpenSpec.ofChange threadRootsSpec)

/-- ITS FALSE NEIGHBOUR: 'it returns false'. Refute it at one input. -/
def threadRootsWrong : ChangeSpec := { name := "threadRoots", fn := fun _ => fun
  | [d1, d2, d3] => { results := [.lit (.bool false)], args := [d1, d2, d3] }
  | _ => none }
def ThreadRootsWrongFalsely : Prop := threadRootsRow.holds Try.pinned (OpenSpec.ofChange threadRootsWrong)

/-- 'hawthornlaw06.ThreadNothing': WHATEVER THE INPUT: true; the input reads as it did. -/
def threadNothingSpec : ChangeSpec := { name := "threadNothing", fn := fun _ => fun
  | [d] => { results := [.lit (.bool true)], args := [d] }
  | _ => none }
def threadNothingRow : OpenClaim := { program := "ytmlgcldohaiohaa", sum := "3a98b9e50509ae8ccb03c592fb03f73e577d5ad3d32a212d9ff8b0e13fe6d450", func := "hawthorn/hawthornlaw06.ThreadNothing", spec := "threadNothing", unfollowed := true, recurses := true, apart := false }
def ThreadNothingSaid : Prop := threadNothingRow.holds Try.pinned (OpenSpec.ofChange threadNothingSpec)

/-- ITS FALSE NEIGHBOUR: 'it returns false'. Refute it at one input. -/
def threadNothingWrong : ChangeSpec := { name := "threadNothing", fn := fun _ => fun
  | [d] => { results := [.lit (.bool false)], args := [d] }
  | _ => none }
def ThreadNothingWrongFalsely : Prop := threadNothingRow.holds Try.pinned (OpenSpec.ofChange threadNothingWrong)

/- THE SECOND FORM. 'bulk': how many values and letters a reading holds, each counted each time it is reached (what is shared counts as often as it is met; a slice's spare places count too). A statement '..UptoSaid' is the law's where the arguments, and the package variables that the reading takes, are together of bulk at most 1048576: NARROWER than '..Said'. Prove '..Said' where nothing that the law and all that it calls make is longer than what came in: it says more and counts as full. Else prove '..UptoSaid'. A law counts once. -/
mutual
def uptoBulk {H : Type} : DataW H → Nat
  | .lit (.string bytes) => bytes.length + 1
  | .lit _ => 1
  | .nil => 1
  | .ptr d => uptoBulk d + 1
  | .slice elems spare => uptoBulkAll elems + uptoBulkAll spare + 1
  | .agg parts => uptoBulkAll parts + 1
  | .iface _ d => uptoBulk d + 1
  | .map entries => uptoBulkEntries entries + 1
  | .held _ => 1
def uptoBulkAll {H : Type} : List (DataW H) → Nat
  | [] => 0
  | d :: r => uptoBulk d + uptoBulkAll r
def uptoBulkEntries {H : Type} : List (Lit × DataW H) → Nat
  | [] => 0
  | x :: r => uptoBulkEntry x + uptoBulkEntries r
def uptoBulkEntry {H : Type} : Lit × DataW H → Nat
  | (.string bytes, d) => bytes.length + uptoBulk d + 1
  | (_, d) => uptoBulk d + 1
 end
def uptoSmall : (H : Type) → List (DataW H) → Bool := fun _ ds => decide (uptoBulkAll ds ≤ 1048576)
def OpenSpec.upto (s : _root_.Go.ChangeSpec) : _root_.Go.OpenSpec := { _root_.Go.OpenSpec.ofChange s with cond := some uptoSmall }

/-- 'hawthornlaw06.ThreadTurns', WHERE WHAT IT READS IS OF BULK AT MOST 1048576: true; the input reads as it did. -/
def threadTurnsUptoRow : OpenClaim := { program := "ytmlgcldohaiohaa", sum := "3a98b9e50509ae8ccb03c592fb03f73e577d5ad3d32a212d9ff8b0e13fe6d450", func := "hawthorn/hawthornlaw06.ThreadTurns", spec := "threadTurns", apart := false, narrowed := true }
def ThreadTurnsUptoSaid : Prop := threadTurnsUptoRow.holds Try.pinned (OpenSpec.upto threadTurnsSpec)

/-- 'hawthornlaw06.ThreadApart', WHERE WHAT IT READS IS OF BULK AT MOST 1048576: true; the input reads as it did. -/
def threadApartUptoRow : OpenClaim := { program := "ytmlgcldohaiohaa", sum := "3a98b9e50509ae8ccb03c592fb03f73e577d5ad3d32a212d9ff8b0e13fe6d450", func := "hawthorn/hawthornlaw06.ThreadApart", spec := "threadApart", unfollowed := true, recurses := true, apart := false, narrowed := true }
def ThreadApartUptoSaid : Prop := threadApartUptoRow.holds Try.pinned (OpenSpec.upto threadApartSpec)

/-- 'hawthornlaw06.ThreadRuns', WHERE WHAT IT READS IS OF BULK AT MOST 1048576: true; the input reads as it did. -/
def threadRunsUptoRow : OpenClaim := { program := "ytmlgcldohaiohaa", sum := "3a98b9e50509ae8ccb03c592fb03f73e577d5ad3d32a212d9ff8b0e13fe6d450", func := "hawthorn/hawthornlaw06.ThreadRuns", spec := "threadRuns", unfollowed := true, recurses := true, apart := false, narrowed := true }
def ThreadRunsUptoSaid : Prop := threadRunsUptoRow.holds Try.pinned (OpenSpec.upto threadRunsSpec)

/-- 'hawthornlaw06.ThreadRoots', WHERE WHAT IT READS IS OF BULK AT MOST 1048576: true; the input reads as it did. -/
def threadRootsUptoRow : OpenClaim := { program := "ytmlgcldohaiohaa", sum := "3a98b9e50509ae8ccb03c592fb03f73e577d5ad3d32a212d9ff8b0e13fe6d450", func := "hawthorn/hawthornlaw06.ThreadRoots", spec := "threadRoots", unfollowed := true, recurses := true, apart := false, narrowed := true }
def ThreadRootsUptoSaid : Prop := threadRootsUptoRow.holds Try.pinned (OpenSpec.upto threadRootsSpec)

/-- 'hawthornlaw06.ThreadNothing', WHERE WHAT IT READS IS OF BULK AT MOST 1048576: true; the input reads as it did. -/
def threadNothingUptoRow : OpenClaim := { program := "ytmlgcldohaiohaa", sum := "3a98b9e50509ae8ccb03c592fb03f73e577d5ad3d32a212d9ff8b0e13fe6d450", func := "hawthorn/hawthornlaw06.ThreadNothing", spec := "threadNothing", unfollowed := true, recurses := true, apart := false, narrowed := true }
def ThreadNothingUptoSaid : Prop := threadNothingUptoRow.holds Try.pinned (OpenSpec.upto threadNothingSpec)

end Rows
end Go.Proofs.Ytmlgcldohaiohaa
