/-
  No cell of these rows narrows 'for every input' (looked for: loops, veiled, ifaces, maps, wideKeys, modest, calm, conditions, laid).
  DERIVED. THE GIVEN ROWS OF THIS SEAT. 11 by the template 'for every input the law returns true; each argument reads behind the call as it read before'; 0 by the template 'total and deterministic' (their statements: YtclmkgnmgednnaaTotals.lean).
  GIVEN WITH THE SEED: the statements are not yours to turn. If you find one false, say at which input.
  Laid BY PROGRAM, IN A SANDBOX (cutbox-rows.mjs): the forced cells as the released guide's own fill.sh prints them over the translation 14c6f68fdbb37742… (all of the seat's roots in one cut). By AI agents, Wed Nov 11 2026. No macro, syntax, notation, axiom, sorry.
-/
import Derived.Test.YtclmkgnmgednnaaChecked
import GoSem.Claim
import GoSem.ClaimJoined
import GoSem.ClaimMapViews
import Derived.JoinedTies
import Derived.KernelRfl
namespace Go.Proofs.Ytclmkgnmgednnaa
/- THE CELL 'sum', in the pinned program and in every row, IS THE sha256 OF THE DUMP (.gsa) THAT YtclmkgnmgednnaaProg.lean LOADS. Nothing in Lean hashes anything: it is a label: what it is worth is what the hold of that sum in a sandbox is worth. -/
noncomputable def Try.pinned : Pinned := { name := "ytclmkgnmgednnaa", sum := "14c6f68fdbb37742667fb4d9b3c1731eb397cc95bc95f7d7432021629be988cb", checked := Try.checked }
namespace Rows
def none {H : Type} : Left H := { results := [], args := [] }

/-- 'hawthornlaw21.CodecBack': WHATEVER THE INPUT: true; the input reads as it did. -/
def codecBackSpec : ChangeSpec := { name := "codecBack", fn := fun _ => fun
  | [d1, d2] => { results := [.lit (.bool true)], args := [d1, d2] }
  | _ => none }
def codecBackRow : OpenClaim := { program := "ytclmkgnmgednnaa", sum := "14c6f68fdbb37742667fb4d9b3c1731eb397cc95bc95f7d7432021629be988cb", func := "hawthorn/hawthornlaw21.CodecBack", spec := "codecBack", apart := false }
def CodecBackSaid : Prop := codecBackRow.holds Try.pinned (OpenSpec.ofChange codecBackSpec)

/-- ITS FALSE NEIGHBOUR: 'it returns false'. Refute it at one input. -/
def codecBackWrong : ChangeSpec := { name := "codecBack", fn := fun _ => fun
  | [d1, d2] => { results := [.lit (.bool false)], args := [d1, d2] }
  | _ => none }
def CodecBackWrongFalsely : Prop := codecBackRow.holds Try.pinned (OpenSpec.ofChange codecBackWrong)

/-- 'hawthornlaw21.CodecAny': WHATEVER THE INPUT: true; the input reads as it did. -/
def codecAnySpec : ChangeSpec := { name := "codecAny", fn := fun _ => fun
  | [d] => { results := [.lit (.bool true)], args := [d] }
  | _ => none }
def codecAnyRow : OpenClaim := { program := "ytclmkgnmgednnaa", sum := "14c6f68fdbb37742667fb4d9b3c1731eb397cc95bc95f7d7432021629be988cb", func := "hawthorn/hawthornlaw21.CodecAny", spec := "codecAny", apart := false }
def CodecAnySaid : Prop := codecAnyRow.holds Try.pinned (OpenSpec.ofChange codecAnySpec)

/-- ITS FALSE NEIGHBOUR: 'it returns false'. Refute it at one input. -/
def codecAnyWrong : ChangeSpec := { name := "codecAny", fn := fun _ => fun
  | [d] => { results := [.lit (.bool false)], args := [d] }
  | _ => none }
def CodecAnyWrongFalsely : Prop := codecAnyRow.holds Try.pinned (OpenSpec.ofChange codecAnyWrong)

/-- 'hawthornlaw21.CodecNumbers': WHATEVER THE INPUT: true; the input reads as it did. -/
def codecNumbersSpec : ChangeSpec := { name := "codecNumbers", fn := fun _ => fun
  | [d1, d2, d3] => { results := [.lit (.bool true)], args := [d1, d2, d3] }
  | _ => none }
def codecNumbersRow : OpenClaim := { program := "ytclmkgnmgednnaa", sum := "14c6f68fdbb37742667fb4d9b3c1731eb397cc95bc95f7d7432021629be988cb", func := "hawthorn/hawthornlaw21.CodecNumbers", spec := "codecNumbers", apart := false }
def CodecNumbersSaid : Prop := codecNumbersRow.holds Try.pinned (OpenSpec.ofChange codecNumbersSpec)

/-- ITS FALSE NEIGHBOUR: 'it returns false'. Refute it at one input. -/
def codecNumbersWrong : ChangeSpec := { name := "codecNumbers", fn := fun _ => fun
  | [d1, d2, d3] => { results := [.lit (.bool false)], args := [d1, d2, d3] }
  | _ => none }
def CodecNumbersWrongFalsely : Prop := codecNumbersRow.holds Try.pinned (OpenSpec.ofChange codecNumbersWrong)

/-- 'hawthornlaw21.CodecSpoilt': WHATEVER THE INPUT: true; the input reads as it did. -/
def codecSpoiltSpec : ChangeSpec := { name := "codecSpoilt", fn := fun _ => fun
  | [d1, d2, d3] => { results := [.lit (.bool true)], args := [d1, d2, d3] }
  | _ => none }
def codecSpoiltRow : OpenClaim := { program := "ytclmkgnmgednnaa", sum := "14c6f68fdbb37742667fb4d9b3c1731eb397cc95bc95f7d7432021629be988cb", func := "hawthorn/hawthornlaw21.CodecSpoilt", spec := "codecSpoilt", apart := false }
def CodecSpoiltSaid : Prop := codecSpoiltRow.holds Try.pinned (OpenSpec.ofChange codecSpoiltSpec)

/-- ITS FALSE NEIGHBOUR: 'it returns false'. Refute it at one input. -/
def codecSpoiltWrong : ChangeSpec := { name := "codecSpoilt", fn := fun _ => fun
  | [d1, d2, d3] => { results := [.lit (.bool false)], args := [d1, d2, d3] }
  | _ => none }
def CodecSpoiltWrongFalsely : Prop := codecSpoiltRow.holds Try.pinned (OpenSpec.ofChange codecSpoiltWrong)

/-- 'hawthornlaw21.CodecLong': WHATEVER THE INPUT: true; the input reads as it did. -/
def codecLongSpec : ChangeSpec := { name := "codecLong", fn := fun _ => fun
  | [d1, d2] => { results := [.lit (.bool true)], args := [d1, d2] }
  | _ => none }
def codecLongRow : OpenClaim := { program := "ytclmkgnmgednnaa", sum := "14c6f68fdbb37742667fb4d9b3c1731eb397cc95bc95f7d7432021629be988cb", func := "hawthorn/hawthornlaw21.CodecLong", spec := "codecLong", apart := false }
def CodecLongSaid : Prop := codecLongRow.holds Try.pinned (OpenSpec.ofChange codecLongSpec)

/-- ITS FALSE NEIGHBOUR: 'it returns false'. Refute it at one input. -/
def codecLongWrong : ChangeSpec := { name := "codecLong", fn := fun _ => fun
  | [d1, d2] => { results := [.lit (.bool false)], args := [d1, d2] }
  | _ => none }
def CodecLongWrongFalsely : Prop := codecLongRow.holds Try.pinned (OpenSpec.ofChange codecLongWrong)

/-- 'hawthornlaw21.CodecFew': WHATEVER THE INPUT: true; the input reads as it did. -/
def codecFewSpec : ChangeSpec := { name := "codecFew", fn := fun _ => fun
  | [d1, d2, d3] => { results := [.lit (.bool true)], args := [d1, d2, d3] }
  | _ => none }
def codecFewRow : OpenClaim := { program := "ytclmkgnmgednnaa", sum := "14c6f68fdbb37742667fb4d9b3c1731eb397cc95bc95f7d7432021629be988cb", func := "hawthorn/hawthornlaw21.CodecFew", spec := "codecFew", apart := false }
def CodecFewSaid : Prop := codecFewRow.holds Try.pinned (OpenSpec.ofChange codecFewSpec)

/-- ITS FALSE NEIGHBOUR: 'it returns false'. Refute it at one input. -/
def codecFewWrong : ChangeSpec := { name := "codecFew", fn := fun _ => fun
  | [d1, d2, d3] => { results := [.lit (.bool false)], args := [d1, d2, d3] }
  | _ => none }
def CodecFewWrongFalsely : Prop := codecFewRow.holds Try.pinned (OpenSpec.ofChange codecFewWrong)

/-- 'hawthornlaw07.RootRuns': WHATEVER THE INPUT: true; the input reads as it did. -/
def rootRunsSpec : ChangeSpec := { name := "rootRuns", fn := fun _ => fun
  | [d1, d2, d3] => { results := [.lit (.bool true)], args := [d1, d2, d3] }
  | _ => none }
def rootRunsRow : OpenClaim := { program := "ytclmkgnmgednnaa", sum := "14c6f68fdbb37742667fb4d9b3c1731eb397cc95bc95f7d7432021629be988cb", func := "hawthorn/hawthornlaw07.RootRuns", spec := "rootRuns", unfollowed := true, recurses := true, apart := false }
def RootRunsSaid : Prop := rootRunsRow.holds Try.pinned (OpenSpec.ofChange rootRunsSpec)

/-- ITS FALSE NEIGHBOUR: 'it returns false'. Refute it at one input. -/
def rootRunsWrong : ChangeSpec := { name := "rootRuns", fn := fun _ => fun
  | [d1, d2, d3] => { results := [.lit (.bool false)], args := [d1, d2, d3] }
  | _ => none }
def RootRunsWrongFalsely : Prop := rootRunsRow.holds Try.pinned (OpenSpec.ofChange rootRunsWrong)

/-- 'hawthornlaw07.RootGlobals': WHATEVER THE INPUT: true; the input reads as it did. -/
def rootGlobalsSpec : ChangeSpec := { name := "rootGlobals", fn := fun _ => fun
  | [d1, d2] => { results := [.lit (.bool true)], args := [d1, d2] }
  | _ => none }
def rootGlobalsRow : OpenClaim := { program := "ytclmkgnmgednnaa", sum := "14c6f68fdbb37742667fb4d9b3c1731eb397cc95bc95f7d7432021629be988cb", func := "hawthorn/hawthornlaw07.RootGlobals", spec := "rootGlobals", unfollowed := true, recurses := true, apart := false }
def RootGlobalsSaid : Prop := rootGlobalsRow.holds Try.pinned (OpenSpec.ofChange rootGlobalsSpec)

/-- ITS FALSE NEIGHBOUR: 'it returns false'. Refute it at one input. -/
def rootGlobalsWrong : ChangeSpec := { name := "rootGlobals", fn := fun _ => fun
  | [d1, d2] => { results := [.lit (.bool false)], args := [d1, d2] }
  | _ => none }
def RootGlobalsWrongFalsely : Prop := rootGlobalsRow.holds Try.pinned (OpenSpec.ofChange rootGlobalsWrong)

/-- 'hawthornlaw07.RootOrder': WHATEVER THE INPUT: true; the input reads as it did. -/
def rootOrderSpec : ChangeSpec := { name := "rootOrder", fn := fun _ => fun
  | [d] => { results := [.lit (.bool true)], args := [d] }
  | _ => none }
def rootOrderRow : OpenClaim := { program := "ytclmkgnmgednnaa", sum := "14c6f68fdbb37742667fb4d9b3c1731eb397cc95bc95f7d7432021629be988cb", func := "hawthorn/hawthornlaw07.RootOrder", spec := "rootOrder", unfollowed := true, recurses := true, apart := false }
def RootOrderSaid : Prop := rootOrderRow.holds Try.pinned (OpenSpec.ofChange rootOrderSpec)

/-- ITS FALSE NEIGHBOUR: 'it returns false'. Refute it at one input. -/
def rootOrderWrong : ChangeSpec := { name := "rootOrder", fn := fun _ => fun
  | [d] => { results := [.lit (.bool false)], args := [d] }
  | _ => none }
def RootOrderWrongFalsely : Prop := rootOrderRow.holds Try.pinned (OpenSpec.ofChange rootOrderWrong)

/-- 'hawthornlaw07.RootThreads': WHATEVER THE INPUT: true; the input reads as it did. -/
def rootThreadsSpec : ChangeSpec := { name := "rootThreads", fn := fun _ => fun
  | [d1, d2] => { results := [.lit (.bool true)], args := [d1, d2] }
  | _ => none }
def rootThreadsRow : OpenClaim := { program := "ytclmkgnmgednnaa", sum := "14c6f68fdbb37742667fb4d9b3c1731eb397cc95bc95f7d7432021629be988cb", func := "hawthorn/hawthornlaw07.RootThreads", spec := "rootThreads", unfollowed := true, recurses := true, apart := false }
def RootThreadsSaid : Prop := rootThreadsRow.holds Try.pinned (OpenSpec.ofChange rootThreadsSpec)

/-- ITS FALSE NEIGHBOUR: 'it returns false'. Refute it at one input. -/
def rootThreadsWrong : ChangeSpec := { name := "rootThreads", fn := fun _ => fun
  | [d1, d2] => { results := [.lit (.bool false)], args := [d1, d2] }
  | _ => none }
def RootThreadsWrongFalsely : Prop := rootThreadsRow.holds Try.pinned (OpenSpec.ofChange rootThreadsWrong)

/-- 'hawthornlaw07.RootAnew': WHATEVER THE INPUT: true; the input reads as it did. -/
def rootAnewSpec : ChangeSpec := { name := "rootAnew", fn := fun _ => fun
  | [d1, d2] => { results := [.lit (.bool true)], args := [d1, d2] }
  | _ => none }
def rootAnewRow : OpenClaim := { program := "ytclmkgnmgednnaa", sum := "14c6f68fdbb37742667fb4d9b3c1731eb397cc95bc95f7d7432021629be988cb", func := "hawthorn/hawthornlaw07.RootAnew", spec := "rootAnew", unfollowed := true, recurses := true, apart := false }
def RootAnewSaid : Prop := rootAnewRow.holds Try.pinned (OpenSpec.ofChange rootAnewSpec)

/-- ITS FALSE NEIGHBOUR: 'it returns false'. Refute it at one input. -/
def rootAnewWrong : ChangeSpec := { name := "rootAnew", fn := fun _ => fun
  | [d1, d2] => { results := [.lit (.bool false)], args := [d1, d2] }
  | _ => none }
def RootAnewWrongFalsely : Prop := rootAnewRow.holds Try.pinned (OpenSpec.ofChange rootAnewWrong)

/- THE SECOND FORM. 'bulk': how many values and letters a reading holds, each counted each time it is reached (what is shared counts as often as it is met; a slice's spare places count too). A statement '..UptoSaid' is the law's where the arguments, and the package variables that the reading takes, are together of bulk at most 1048576: NARROWER than '..Said'. Prove '..Said' where nothing that the law and all that it calls make is longer than what came in: it says more and counts as full. Else prove '..UptoSaid'. A law counts once. -/
mutual
def uptoBulk {H : Type} : DataW H → Nat
  | .lit (.string bytes) => bytes.length + 1
  | .lit _ => 1
  | .nil => 1
  | .ptr d => uptoBulk d + 1
  | .slice elems spare => uptoBulkAll elems + uptoBulkAll spare + 1
  | .agg parts => uptoBulkAll parts + 1
  | .iface _ d => uptoBulk d + 1
  | .map entries => uptoBulkEntries entries + 1
  | .held _ => 1
def uptoBulkAll {H : Type} : List (DataW H) → Nat
  | [] => 0
  | d :: r => uptoBulk d + uptoBulkAll r
def uptoBulkEntries {H : Type} : List (Lit × DataW H) → Nat
  | [] => 0
  | x :: r => uptoBulkEntry x + uptoBulkEntries r
def uptoBulkEntry {H : Type} : Lit × DataW H → Nat
  | (.string bytes, d) => bytes.length + uptoBulk d + 1
  | (_, d) => uptoBulk d + 1
 end
def uptoSmall : (H : Type) → List (DataW H) → Bool := fun _ ds => decide (uptoBulkAll ds ≤ 1048576)
def OpenSpec.upto (s : _root_.Go.ChangeSpec) : _root_.Go.OpenSpec := { _root_.Go.OpenSpec.ofChange s with cond := some uptoSmall }

/-- 'hawthornlaw21.CodecBack', WHERE WHAT IT READS IS OF BULK AT MOST 1048576: true; the input reads as it did. -/
def codecBackUptoRow : OpenClaim := { program := "ytclmkgnmgednnaa", sum := "14c6f68fdbb37742667fb4d9b3c1731eb397cc95bc95f7d7432021629be988cb", func := "hawthorn/hawthornlaw21.CodecBack", spec := "codecBack", apart := false, narrowed := true }
def CodecBackUptoSaid : Prop := codecBackUptoRow.holds Try.pinned (OpenSpec.upto codecBackSpec)

/-- 'hawthornlaw21.CodecAny', WHERE WHAT IT READS IS OF BULK AT MOST 1048576: true; the input reads as it did. -/
def codecAnyUptoRow : OpenClaim := { program := "ytclmkgnmgednnaa", sum := "14c6f68fdbb37742667fb4d9b3c1731eb397cc95bc95f7d7432021629be988cb", func := "hawthorn/hawthornlaw21.CodecAny", spec := "codecAny", apart := false, narrowed := true }
def CodecAnyUptoSaid : Prop := codecAnyUptoRow.holds Try.pinned (OpenSpec.upto codecAnySpec)

/-- 'hawthornlaw21.CodecNumbers', WHERE WHAT IT READS IS OF BULK AT MOST 1048576: true; the input reads as it did. -/
def codecNumbersUptoRow : OpenClaim := { program := "ytclmkgnmgednnaa", sum := "14c6f68fdbb37742667fb4d9b3c1731eb397cc95bc95f7d7432021629be988cb", func := "hawthorn/hawthornlaw21.CodecNumbers", spec := "codecNumbers", apart := false, narrowed := true }
def CodecNumbersUptoSaid : Prop := codecNumbersUptoRow.holds Try.pinned (OpenSpec.upto codecNumbersSpec)

/-- 'hawthornlaw21.CodecSpoilt', WHERE WHAT IT READS IS OF BULK AT MOST 1048576: true; the input reads as it did. -/
def codecSpoiltUptoRow : OpenClaim := { program := "ytclmkgnmgednnaa", sum := "14c6f68fdbb37742667fb4d9b3c1731eb397cc95bc95f7d7432021629be988cb", func := "hawthorn/hawthornlaw21.CodecSpoilt", spec := "codecSpoilt", apart := false, narrowed := true }
def CodecSpoiltUptoSaid : Prop := codecSpoiltUptoRow.holds Try.pinned (OpenSpec.upto codecSpoiltSpec)

/-- 'hawthornlaw21.CodecLong', WHERE WHAT IT READS IS OF BULK AT MOST 1048576: true; the input reads as it did. -/
def codecLongUptoRow : OpenClaim := { program := "ytclmkgnmgednnaa", sum := "14c6f68fdbb37742667fb4d9b3c1731eb397cc95bc95f7d7432021629be988cb", func := "hawthorn/hawthornlaw21.CodecLong", spec := "codecLong", apart := false, narrowed := true }
def CodecLongUptoSaid : Prop := codecLongUptoRow.holds Try.pinned (OpenSpec.upto codecLongSpec)

/-- 'hawthornlaw21.CodecFew', WHERE WHAT IT READS IS OF BULK AT MOST 1048576: true; the input reads as it did. -/
def codecFewUptoRow : OpenClaim := { program := "ytclmkgnmgednnaa", sum := "14c6f68fdbb37742667fb4d9b3c1731eb397cc95bc95f7d7432021629be988cb", func := "hawthorn/hawthornlaw21.CodecFew", spec := "codecFew", apart := false, narrowed := true }
def CodecFewUptoSaid : Prop := codecFewUptoRow.holds Try.pinned (OpenSpec.upto codecFewSpec)

/-- 'hawthornlaw07.RootRuns', WHERE WHAT IT READS IS OF BULK AT MOST 1048576: true; the input reads as it did. -/
def rootRunsUptoRow : OpenClaim := { program := "ytclmkgnmgednnaa", sum := "14c6f68fdbb37742667fb4d9b3c1731eb397cc95bc95f7d7432021629be988cb", func := "hawthorn/hawthornlaw07.RootRuns", spec := "rootRuns", unfollowed := true, recurses := true, apart := false, narrowed := true }
def RootRunsUptoSaid : Prop := rootRunsUptoRow.holds Try.pinned (OpenSpec.upto rootRunsSpec)

/-- 'hawthornlaw07.RootGlobals', WHERE WHAT IT READS IS OF BULK AT MOST 1048576: true; the input reads as it did. -/
def rootGlobalsUptoRow : OpenClaim := { program := "ytclmkgnmgednnaa", sum := "14c6f68fdbb37742667fb4d9b3c1731eb397cc95bc95f7d7432021629be988cb", func := "hawthorn/hawthornlaw07.RootGlobals", spec := "rootGlobals", unfollowed := true, recurses := true, apart := false, narrowed := true }
def RootGlobalsUptoSaid : Prop := rootGlobalsUptoRow.holds Try.pinned (OpenSpec.upto rootGlobalsSpec)

/-- 'hawthornlaw07.RootOrder', WHERE WHAT IT READS IS OF BULK AT MOST 1048576: true; the input reads as it did. -/
def rootOrderUptoRow : OpenClaim := { program := "ytclmkgnmgednnaa", sum := "14c6f68fdbb37742667fb4d9b3c1731eb397cc95bc95f7d7432021629be988cb", func := "hawthorn/hawthornlaw07.RootOrder", spec := "rootOrder", unfollowed := true, recurses := true, apart := false, narrowed := true }
def RootOrderUptoSaid : Prop := rootOrderUptoRow.holds Try.pinned (OpenSpec.upto rootOrderSpec)

/-- 'hawthornlaw07.RootThreads', WHERE WHAT IT READS IS OF BULK AT MOST 1048576: true; the input reads as it did. -/
def rootThreadsUptoRow : OpenClaim := { program := "ytclmkgnmgednnaa", sum := "14c6f68fdbb37742667fb4d9b3c1731eb397cc95bc95f7d7432021629be988cb", func := "hawthorn/hawthornlaw07.RootThreads", spec := "rootThreads", unfollowed := true, recurses := true, apart := false, narrowed := true }
def RootThreadsUptoSaid : Prop := rootThreadsUptoRow.holds Try.pinned (OpenSpec.upto rootThreadsSpec)

/-- 'hawthornlaw07.RootAnew', WHERE WHAT IT READS IS OF BULK AT MOST 1048576: true; the input reads as it did. -/
def rootAnewUptoRow : OpenClaim := { program := "ytclmkgnmgednnaa", sum := "14c6f68fdbb37742667fb4d9b3c1731eb397cc95bc95f7d7432021629be988cb", func := "hawthorn/hawthornlaw07.RootAnew", spec := "rootAnew", unfollowed := true, recurses := true, apart := false, narrowed := true }
def RootAnewUptoSaid : Prop := rootAnewUptoRow.holds Try.pinned (OpenSpec.upto rootAnewSpec)

end Rows
end Go.Proofs.Ytclmkgnmgednnaa
