/-
  NARROWER THAN 'FOR EVERY INPUT', by the rows' own cells (each row's printed sentence says how): GraphFresh: laid · GraphAt: laid · GraphExits: laid · GraphQuiet: laid.
  DERIVED. THE GIVEN ROWS OF THIS SEAT. 4 by the template 'for every input the law returns true; each argument reads behind the call as it read before'; 0 by the template 'total and deterministic' (their statements: YteomgcebbjoklaaDoorTotals.lean).
  GIVEN WITH THE SEED: the statements are not yours to turn. If you find one false, say at which input.
  Laid BY PROGRAM, IN A SANDBOX (cutbox-rows.mjs): the forced cells as the released guide's own fill.sh prints them over the translation b5d25659440da283… (all of the seat's roots in one cut). By AI agents, Wed Nov 11 2026. No macro, syntax, notation, axiom, sorry.
-/
import Derived.Test.YteomgcebbjoklaaDoorChecked
import GoSem.Claim
import GoSem.ClaimJoined
import GoSem.ClaimMapViews
import Derived.JoinedTies
import Derived.KernelRfl
namespace Go.Proofs.YteomgcebbjoklaaDoor
/- THE CELL 'sum', in the pinned program and in every row, IS THE sha256 OF THE DUMP (.gsa) THAT YteomgcebbjoklaaDoorProg.lean LOADS. Nothing in Lean hashes anything: it is a label: what it is worth is what the hold of that sum in a sandbox is worth. -/
noncomputable def Tryd.pinned : Pinned := { name := "yteomgcebbjoklaadoor", sum := "b5d25659440da283c8f3f6105e0749bef2da4e72e210a0c0102b3630284d15f7", checked := Tryd.checked }
namespace Rows
def none {H : Type} : Left H := { results := [], args := [] }

/- WHAT THE LISTED PACKAGE-LEVEL VARIABLES READ AS WHEN THE CALL BEGINS. Each datum BY PROGRAM (the guide's laid-datum.mjs) off the statement by which the dump's own 'gosem.cut.vars' lays the variable. In a bare row this is a premise. The card (YteomgcebbjoklaaDoorCards.lean) ties it to the program's text. -/
def laid_hawthorn_op_kinds {H : Type} : DataW H := .slice [.agg [.lit (.string [97, 108, 108, 111, 99]), .lit (.bool true), .lit (.bool false), .lit (.bool false)], .agg [.lit (.string [108, 111, 97, 100]), .lit (.bool true), .lit (.bool true), .lit (.bool false)], .agg [.lit (.string [115, 116, 111, 114, 101]), .lit (.bool true), .lit (.bool false), .lit (.bool true)], .agg [.lit (.string [108, 111, 97, 100, 115]), .lit (.bool true), .lit (.bool false), .lit (.bool false)], .agg [.lit (.string [115, 116, 111, 114, 101, 115]), .lit (.bool true), .lit (.bool false), .lit (.bool false)], .agg [.lit (.string [109, 111, 118, 101]), .lit (.bool true), .lit (.bool true), .lit (.bool false)], .agg [.lit (.string [99, 108, 101, 97, 114]), .lit (.bool true), .lit (.bool false), .lit (.bool false)], .agg [.lit (.string [101, 113]), .lit (.bool true), .lit (.bool true), .lit (.bool false)], .agg [.lit (.string [105, 115, 110, 105, 108]), .lit (.bool true), .lit (.bool false), .lit (.bool false)], .agg [.lit (.string [112, 117, 115, 104]), .lit (.bool true), .lit (.bool false), .lit (.bool false)], .agg [.lit (.string [112, 111, 112]), .lit (.bool true), .lit (.bool false), .lit (.bool false)], .agg [.lit (.string [103, 101, 116, 103]), .lit (.bool true), .lit (.bool false), .lit (.bool false)], .agg [.lit (.string [112, 117, 116, 103]), .lit (.bool true), .lit (.bool false), .lit (.bool false)]] []

/-- 'hawthornlaw20.GraphFresh': WHATEVER THE INPUT: true; the input reads as it did. -/
def graphFreshSpec : ChangeSpec := { name := "graphFresh", fn := fun _ => fun
  | [d1, d2, d3] => { results := [.lit (.bool true)], args := [d1, d2, d3] }
  | _ => none }
def graphFreshRow : OpenClaim := { program := "yteomgcebbjoklaadoor", sum := "b5d25659440da283c8f3f6105e0749bef2da4e72e210a0c0102b3630284d15f7", func := "hawthorn/hawthornlaw20.GraphFresh", spec := "graphFresh", inPlace := ["sync/atomic.LoadUint32", "(*internal/sync.Mutex).Lock", "internal/race.Disable", "sync/atomic.CompareAndSwapInt32", "internal/race.Enable", "internal/race.Acquire", "(*internal/sync.Mutex).lockSlow", "internal/sync.runtime_canSpin", "internal/sync.runtime_doSpin", "internal/sync.throw", "internal/sync.runtime_nanotime", "internal/sync.runtime_SemacquireMutex", "sync/atomic.AddInt32", "(*internal/sync.Mutex).Unlock", "internal/race.ReleaseMerge", "(*internal/sync.Mutex).unlockSlow", "internal/sync.fatal", "internal/sync.runtime_Semrelease", "sync/atomic.StoreUint32", "sync/atomic.OrUint64", "sync/atomic.LoadUint64"], unfollowed := true, recurses := true, named := ["hawthorn/op.kinds"], apart := false, laid := [("hawthorn/op.kinds", laid_hawthorn_op_kinds)] }
def GraphFreshSaid : Prop := graphFreshRow.holds Tryd.pinned (OpenSpec.ofChange graphFreshSpec)

/-- ITS FALSE NEIGHBOUR: 'it returns false'. Refute it at one input. -/
def graphFreshWrong : ChangeSpec := { name := "graphFresh", fn := fun _ => fun
  | [d1, d2, d3] => { results := [.lit (.bool false)], args := [d1, d2, d3] }
  | _ => none }
def GraphFreshWrongFalsely : Prop := graphFreshRow.holds Tryd.pinned (OpenSpec.ofChange graphFreshWrong)

/-- 'hawthornlaw20.GraphAt': WHATEVER THE INPUT: true; the input reads as it did. -/
def graphAtSpec : ChangeSpec := { name := "graphAt", fn := fun _ => fun
  | [d1, d2] => { results := [.lit (.bool true)], args := [d1, d2] }
  | _ => none }
def graphAtRow : OpenClaim := { program := "yteomgcebbjoklaadoor", sum := "b5d25659440da283c8f3f6105e0749bef2da4e72e210a0c0102b3630284d15f7", func := "hawthorn/hawthornlaw20.GraphAt", spec := "graphAt", inPlace := ["sync/atomic.LoadUint32", "(*internal/sync.Mutex).Lock", "internal/race.Disable", "sync/atomic.CompareAndSwapInt32", "internal/race.Enable", "internal/race.Acquire", "(*internal/sync.Mutex).lockSlow", "internal/sync.runtime_canSpin", "internal/sync.runtime_doSpin", "internal/sync.throw", "internal/sync.runtime_nanotime", "internal/sync.runtime_SemacquireMutex", "sync/atomic.AddInt32", "(*internal/sync.Mutex).Unlock", "internal/race.ReleaseMerge", "(*internal/sync.Mutex).unlockSlow", "internal/sync.fatal", "internal/sync.runtime_Semrelease", "sync/atomic.StoreUint32", "sync/atomic.OrUint64", "sync/atomic.LoadUint64"], unfollowed := true, recurses := true, named := ["hawthorn/op.kinds"], apart := false, laid := [("hawthorn/op.kinds", laid_hawthorn_op_kinds)] }
def GraphAtSaid : Prop := graphAtRow.holds Tryd.pinned (OpenSpec.ofChange graphAtSpec)

/-- ITS FALSE NEIGHBOUR: 'it returns false'. Refute it at one input. -/
def graphAtWrong : ChangeSpec := { name := "graphAt", fn := fun _ => fun
  | [d1, d2] => { results := [.lit (.bool false)], args := [d1, d2] }
  | _ => none }
def GraphAtWrongFalsely : Prop := graphAtRow.holds Tryd.pinned (OpenSpec.ofChange graphAtWrong)

/-- 'hawthornlaw20.GraphExits': WHATEVER THE INPUT: true; the input reads as it did. -/
def graphExitsSpec : ChangeSpec := { name := "graphExits", fn := fun _ => fun
  | [d1, d2] => { results := [.lit (.bool true)], args := [d1, d2] }
  | _ => none }
def graphExitsRow : OpenClaim := { program := "yteomgcebbjoklaadoor", sum := "b5d25659440da283c8f3f6105e0749bef2da4e72e210a0c0102b3630284d15f7", func := "hawthorn/hawthornlaw20.GraphExits", spec := "graphExits", inPlace := ["sync/atomic.LoadUint32", "(*internal/sync.Mutex).Lock", "internal/race.Disable", "sync/atomic.CompareAndSwapInt32", "internal/race.Enable", "internal/race.Acquire", "(*internal/sync.Mutex).lockSlow", "internal/sync.runtime_canSpin", "internal/sync.runtime_doSpin", "internal/sync.throw", "internal/sync.runtime_nanotime", "internal/sync.runtime_SemacquireMutex", "sync/atomic.AddInt32", "(*internal/sync.Mutex).Unlock", "internal/race.ReleaseMerge", "(*internal/sync.Mutex).unlockSlow", "internal/sync.fatal", "internal/sync.runtime_Semrelease", "sync/atomic.StoreUint32", "sync/atomic.OrUint64", "sync/atomic.LoadUint64"], unfollowed := true, recurses := true, named := ["hawthorn/op.kinds"], apart := false, laid := [("hawthorn/op.kinds", laid_hawthorn_op_kinds)] }
def GraphExitsSaid : Prop := graphExitsRow.holds Tryd.pinned (OpenSpec.ofChange graphExitsSpec)

/-- ITS FALSE NEIGHBOUR: 'it returns false'. Refute it at one input. -/
def graphExitsWrong : ChangeSpec := { name := "graphExits", fn := fun _ => fun
  | [d1, d2] => { results := [.lit (.bool false)], args := [d1, d2] }
  | _ => none }
def GraphExitsWrongFalsely : Prop := graphExitsRow.holds Tryd.pinned (OpenSpec.ofChange graphExitsWrong)

/-- 'hawthornlaw20.GraphQuiet': WHATEVER THE INPUT: true; the input reads as it did. -/
def graphQuietSpec : ChangeSpec := { name := "graphQuiet", fn := fun _ => fun
  | [d1, d2, d3] => { results := [.lit (.bool true)], args := [d1, d2, d3] }
  | _ => none }
def graphQuietRow : OpenClaim := { program := "yteomgcebbjoklaadoor", sum := "b5d25659440da283c8f3f6105e0749bef2da4e72e210a0c0102b3630284d15f7", func := "hawthorn/hawthornlaw20.GraphQuiet", spec := "graphQuiet", inPlace := ["sync/atomic.LoadUint32", "(*internal/sync.Mutex).Lock", "internal/race.Disable", "sync/atomic.CompareAndSwapInt32", "internal/race.Enable", "internal/race.Acquire", "(*internal/sync.Mutex).lockSlow", "internal/sync.runtime_canSpin", "internal/sync.runtime_doSpin", "internal/sync.throw", "internal/sync.runtime_nanotime", "internal/sync.runtime_SemacquireMutex", "sync/atomic.AddInt32", "(*internal/sync.Mutex).Unlock", "internal/race.ReleaseMerge", "(*internal/sync.Mutex).unlockSlow", "internal/sync.fatal", "internal/sync.runtime_Semrelease", "sync/atomic.StoreUint32", "sync/atomic.OrUint64", "sync/atomic.LoadUint64"], unfollowed := true, recurses := true, named := ["hawthorn/op.kinds"], apart := false, laid := [("hawthorn/op.kinds", laid_hawthorn_op_kinds)] }
def GraphQuietSaid : Prop := graphQuietRow.holds Tryd.pinned (OpenSpec.ofChange graphQuietSpec)

/-- ITS FALSE NEIGHBOUR: 'it returns false'. Refute it at one input. -/
def graphQuietWrong : ChangeSpec := { name := "graphQuiet", fn := fun _ => fun
  | [d1, d2, d3] => { results := [.lit (.bool false)], args := [d1, d2, d3] }
  | _ => none }
def GraphQuietWrongFalsely : Prop := graphQuietRow.holds Tryd.pinned (OpenSpec.ofChange graphQuietWrong)

/- THE SECOND FORM. 'bulk': how many values and letters a reading holds, each counted each time it is reached (what is shared counts as often as it is met; a slice's spare places count too). A statement '..UptoSaid' is the law's where the arguments, and the package variables that the reading takes, are together of bulk at most 1048576: NARROWER than '..Said'. Prove '..Said' where nothing that the law and all that it calls make is longer than what came in: it says more and counts as full. Else prove '..UptoSaid'. A law counts once. -/
mutual
def uptoBulk {H : Type} : DataW H → Nat
  | .lit (.string bytes) => bytes.length + 1
  | .lit _ => 1
  | .nil => 1
  | .ptr d => uptoBulk d + 1
  | .slice elems spare => uptoBulkAll elems + uptoBulkAll spare + 1
  | .agg parts => uptoBulkAll parts + 1
  | .iface _ d => uptoBulk d + 1
  | .map entries => uptoBulkEntries entries + 1
  | .held _ => 1
def uptoBulkAll {H : Type} : List (DataW H) → Nat
  | [] => 0
  | d :: r => uptoBulk d + uptoBulkAll r
def uptoBulkEntries {H : Type} : List (Lit × DataW H) → Nat
  | [] => 0
  | x :: r => uptoBulkEntry x + uptoBulkEntries r
def uptoBulkEntry {H : Type} : Lit × DataW H → Nat
  | (.string bytes, d) => bytes.length + uptoBulk d + 1
  | (_, d) => uptoBulk d + 1
 end
def uptoSmall : (H : Type) → List (DataW H) → Bool := fun _ ds => decide (uptoBulkAll ds ≤ 1048576)
def OpenSpec.upto (s : _root_.Go.ChangeSpec) : _root_.Go.OpenSpec := { _root_.Go.OpenSpec.ofChange s with cond := some uptoSmall }

/-- 'hawthornlaw20.GraphFresh', WHERE WHAT IT READS IS OF BULK AT MOST 1048576: true; the input reads as it did. -/
def graphFreshUptoRow : OpenClaim := { program := "yteomgcebbjoklaadoor", sum := "b5d25659440da283c8f3f6105e0749bef2da4e72e210a0c0102b3630284d15f7", func := "hawthorn/hawthornlaw20.GraphFresh", spec := "graphFresh", inPlace := ["sync/atomic.LoadUint32", "(*internal/sync.Mutex).Lock", "internal/race.Disable", "sync/atomic.CompareAndSwapInt32", "internal/race.Enable", "internal/race.Acquire", "(*internal/sync.Mutex).lockSlow", "internal/sync.runtime_canSpin", "internal/sync.runtime_doSpin", "internal/sync.throw", "internal/sync.runtime_nanotime", "internal/sync.runtime_SemacquireMutex", "sync/atomic.AddInt32", "(*internal/sync.Mutex).Unlock", "internal/race.ReleaseMerge", "(*internal/sync.Mutex).unlockSlow", "internal/sync.fatal", "internal/sync.runtime_Semrelease", "sync/atomic.StoreUint32", "sync/atomic.OrUint64", "sync/atomic.LoadUint64"], unfollowed := true, recurses := true, named := ["hawthorn/op.kinds"], apart := false, laid := [("hawthorn/op.kinds", laid_hawthorn_op_kinds)], narrowed := true }
def GraphFreshUptoSaid : Prop := graphFreshUptoRow.holds Tryd.pinned (OpenSpec.upto graphFreshSpec)

/-- 'hawthornlaw20.GraphAt', WHERE WHAT IT READS IS OF BULK AT MOST 1048576: true; the input reads as it did. -/
def graphAtUptoRow : OpenClaim := { program := "yteomgcebbjoklaadoor", sum := "b5d25659440da283c8f3f6105e0749bef2da4e72e210a0c0102b3630284d15f7", func := "hawthorn/hawthornlaw20.GraphAt", spec := "graphAt", inPlace := ["sync/atomic.LoadUint32", "(*internal/sync.Mutex).Lock", "internal/race.Disable", "sync/atomic.CompareAndSwapInt32", "internal/race.Enable", "internal/race.Acquire", "(*internal/sync.Mutex).lockSlow", "internal/sync.runtime_canSpin", "internal/sync.runtime_doSpin", "internal/sync.throw", "internal/sync.runtime_nanotime", "internal/sync.runtime_SemacquireMutex", "sync/atomic.AddInt32", "(*internal/sync.Mutex).Unlock", "internal/race.ReleaseMerge", "(*internal/sync.Mutex).unlockSlow", "internal/sync.fatal", "internal/sync.runtime_Semrelease", "sync/atomic.StoreUint32", "sync/atomic.OrUint64", "sync/atomic.LoadUint64"], unfollowed := true, recurses := true, named := ["hawthorn/op.kinds"], apart := false, laid := [("hawthorn/op.kinds", laid_hawthorn_op_kinds)], narrowed := true }
def GraphAtUptoSaid : Prop := graphAtUptoRow.holds Tryd.pinned (OpenSpec.upto graphAtSpec)

/-- 'hawthornlaw20.GraphExits', WHERE WHAT IT READS IS OF BULK AT MOST 1048576: true; the input reads as it did. -/
def graphExitsUptoRow : OpenClaim := { program := "yteomgcebbjoklaadoor", sum := "b5d25659440da283c8f3f6105e0749bef2da4e72e210a0c0102b3630284d15f7", func := "hawthorn/hawthornlaw20.GraphExits", spec := "graphExits", inPlace := ["sync/atomic.LoadUint32", "(*internal/sync.Mutex).Lock", "internal/race.Disable", "sync/atomic.CompareAndSwapInt32", "internal/race.Enable", "internal/race.Acquire", "(*internal/sync.Mutex).lockSlow", "internal/sync.runtime_canSpin", "internal/sync.runtime_doSpin", "internal/sync.throw", "internal/sync.runtime_nanotime", "internal/sync.runtime_SemacquireMutex", "sync/atomic.AddInt32", "(*internal/sync.Mutex).Unlock", "internal/race.ReleaseMerge", "(*internal/sync.Mutex).unlockSlow", "internal/sync.fatal", "internal/sync.runtime_Semrelease", "sync/atomic.StoreUint32", "sync/atomic.OrUint64", "sync/atomic.LoadUint64"], unfollowed := true, recurses := true, named := ["hawthorn/op.kinds"], apart := false, laid := [("hawthorn/op.kinds", laid_hawthorn_op_kinds)], narrowed := true }
def GraphExitsUptoSaid : Prop := graphExitsUptoRow.holds Tryd.pinned (OpenSpec.upto graphExitsSpec)

/-- 'hawthornlaw20.GraphQuiet', WHERE WHAT IT READS IS OF BULK AT MOST 1048576: true; the input reads as it did. -/
def graphQuietUptoRow : OpenClaim := { program := "yteomgcebbjoklaadoor", sum := "b5d25659440da283c8f3f6105e0749bef2da4e72e210a0c0102b3630284d15f7", func := "hawthorn/hawthornlaw20.GraphQuiet", spec := "graphQuiet", inPlace := ["sync/atomic.LoadUint32", "(*internal/sync.Mutex).Lock", "internal/race.Disable", "sync/atomic.CompareAndSwapInt32", "internal/race.Enable", "internal/race.Acquire", "(*internal/sync.Mutex).lockSlow", "internal/sync.runtime_canSpin", "internal/sync.runtime_doSpin", "internal/sync.throw", "internal/sync.runtime_nanotime", "internal/sync.runtime_SemacquireMutex", "sync/atomic.AddInt32", "(*internal/sync.Mutex).Unlock", "internal/race.ReleaseMerge", "(*internal/sync.Mutex).unlockSlow", "internal/sync.fatal", "internal/sync.runtime_Semrelease", "sync/atomic.StoreUint32", "sync/atomic.OrUint64", "sync/atomic.LoadUint64"], unfollowed := true, recurses := true, named := ["hawthorn/op.kinds"], apart := false, laid := [("hawthorn/op.kinds", laid_hawthorn_op_kinds)], narrowed := true }
def GraphQuietUptoSaid : Prop := graphQuietUptoRow.holds Tryd.pinned (OpenSpec.upto graphQuietSpec)

end Rows
end Go.Proofs.YteomgcebbjoklaaDoor
