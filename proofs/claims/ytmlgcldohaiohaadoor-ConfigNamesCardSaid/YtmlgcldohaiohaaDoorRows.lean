/-
  NARROWER THAN 'FOR EVERY INPUT', by the rows' own cells (each row's printed sentence says how): OpNames: laid · OpSpells: laid · ConfigChecks: laid · ConfigEdges: laid · ConfigAlls: laid · OpChecks: laid · OpRegs: laid · OpLimits: laid · ConfigAlike: laid · ConfigNames: laid.
  DERIVED. THE GIVEN ROWS OF THIS SEAT. 10 by the template 'for every input the law returns true; each argument reads behind the call as it read before'; 0 by the template 'total and deterministic' (their statements: YtmlgcldohaiohaaDoorTotals.lean).
  GIVEN WITH THE SEED: the statements are not yours to turn. If you find one false, say at which input.
  Laid BY PROGRAM, IN A SANDBOX (cutbox-rows.mjs): the forced cells as the released guide's own fill.sh prints them over the translation a73affaf52208d01… (all of the seat's roots in one cut). By AI agents, Wed Nov 11 2026. No macro, syntax, notation, axiom, sorry.
-/
import Derived.Test.YtmlgcldohaiohaaDoorChecked
import GoSem.Claim
import GoSem.ClaimJoined
import GoSem.ClaimMapViews
import Derived.JoinedTies
import Derived.KernelRfl
namespace Go.Proofs.YtmlgcldohaiohaaDoor
/- THE CELL 'sum', in the pinned program and in every row, IS THE sha256 OF THE DUMP (.gsa) THAT YtmlgcldohaiohaaDoorProg.lean LOADS. Nothing in Lean hashes anything: it is a label: what it is worth is what the hold of that sum in a sandbox is worth. -/
noncomputable def Tryd.pinned : Pinned := { name := "ytmlgcldohaiohaadoor", sum := "a73affaf52208d0115c2570aea50532be68ba7519acfbe910e53f9113d25de06", checked := Tryd.checked }
namespace Rows
def none {H : Type} : Left H := { results := [], args := [] }

/- WHAT THE LISTED PACKAGE-LEVEL VARIABLES READ AS WHEN THE CALL BEGINS. Each datum BY PROGRAM (the guide's laid-datum.mjs) off the statement by which the dump's own 'gosem.cut.vars' lays the variable. In a bare row this is a premise. The card (YtmlgcldohaiohaaDoorCards.lean) ties it to the program's text. -/
def laid_hawthorn_op_kinds {H : Type} : DataW H := .slice [.agg [.lit (.string [97, 108, 108, 111, 99]), .lit (.bool true), .lit (.bool false), .lit (.bool false)], .agg [.lit (.string [108, 111, 97, 100]), .lit (.bool true), .lit (.bool true), .lit (.bool false)], .agg [.lit (.string [115, 116, 111, 114, 101]), .lit (.bool true), .lit (.bool false), .lit (.bool true)], .agg [.lit (.string [108, 111, 97, 100, 115]), .lit (.bool true), .lit (.bool false), .lit (.bool false)], .agg [.lit (.string [115, 116, 111, 114, 101, 115]), .lit (.bool true), .lit (.bool false), .lit (.bool false)], .agg [.lit (.string [109, 111, 118, 101]), .lit (.bool true), .lit (.bool true), .lit (.bool false)], .agg [.lit (.string [99, 108, 101, 97, 114]), .lit (.bool true), .lit (.bool false), .lit (.bool false)], .agg [.lit (.string [101, 113]), .lit (.bool true), .lit (.bool true), .lit (.bool false)], .agg [.lit (.string [105, 115, 110, 105, 108]), .lit (.bool true), .lit (.bool false), .lit (.bool false)], .agg [.lit (.string [112, 117, 115, 104]), .lit (.bool true), .lit (.bool false), .lit (.bool false)], .agg [.lit (.string [112, 111, 112]), .lit (.bool true), .lit (.bool false), .lit (.bool false)], .agg [.lit (.string [103, 101, 116, 103]), .lit (.bool true), .lit (.bool false), .lit (.bool false)], .agg [.lit (.string [112, 117, 116, 103]), .lit (.bool true), .lit (.bool false), .lit (.bool false)]] []
def laid_hawthorn_config_names {H : Type} : DataW H := .agg [.lit (.string [115, 116, 101, 101, 108, 101]), .lit (.string [100, 105, 106, 107, 115, 116, 114, 97]), .lit (.string [121, 117, 97, 115, 97]), .lit (.string [118, 121, 98])]

/-- 'hawthornlaw09.OpNames': WHATEVER THE INPUT: true; the input reads as it did. -/
def opNamesSpec : ChangeSpec := { name := "opNames", fn := fun _ => fun
  | [d1, d2, d3] => { results := [.lit (.bool true)], args := [d1, d2, d3] }
  | _ => none }
def opNamesRow : OpenClaim := { program := "ytmlgcldohaiohaadoor", sum := "a73affaf52208d0115c2570aea50532be68ba7519acfbe910e53f9113d25de06", func := "hawthorn/hawthornlaw09.OpNames", spec := "opNames", named := ["hawthorn/op.kinds"], apart := false, laid := [("hawthorn/op.kinds", laid_hawthorn_op_kinds)] }
def OpNamesSaid : Prop := opNamesRow.holds Tryd.pinned (OpenSpec.ofChange opNamesSpec)

/-- ITS FALSE NEIGHBOUR: 'it returns false'. Refute it at one input. -/
def opNamesWrong : ChangeSpec := { name := "opNames", fn := fun _ => fun
  | [d1, d2, d3] => { results := [.lit (.bool false)], args := [d1, d2, d3] }
  | _ => none }
def OpNamesWrongFalsely : Prop := opNamesRow.holds Tryd.pinned (OpenSpec.ofChange opNamesWrong)

/-- 'hawthornlaw09.OpSpells': WHATEVER THE INPUT: true; the input reads as it did. -/
def opSpellsSpec : ChangeSpec := { name := "opSpells", fn := fun _ => fun
  | [d1, d2] => { results := [.lit (.bool true)], args := [d1, d2] }
  | _ => none }
def opSpellsRow : OpenClaim := { program := "ytmlgcldohaiohaadoor", sum := "a73affaf52208d0115c2570aea50532be68ba7519acfbe910e53f9113d25de06", func := "hawthorn/hawthornlaw09.OpSpells", spec := "opSpells", named := ["hawthorn/op.kinds"], apart := false, laid := [("hawthorn/op.kinds", laid_hawthorn_op_kinds)] }
def OpSpellsSaid : Prop := opSpellsRow.holds Tryd.pinned (OpenSpec.ofChange opSpellsSpec)

/-- ITS FALSE NEIGHBOUR: 'it returns false'. Refute it at one input. -/
def opSpellsWrong : ChangeSpec := { name := "opSpells", fn := fun _ => fun
  | [d1, d2] => { results := [.lit (.bool false)], args := [d1, d2] }
  | _ => none }
def OpSpellsWrongFalsely : Prop := opSpellsRow.holds Tryd.pinned (OpenSpec.ofChange opSpellsWrong)

/-- 'hawthornlaw08.ConfigChecks': WHATEVER THE INPUT: true; the input reads as it did. -/
def configChecksSpec : ChangeSpec := { name := "configChecks", fn := fun _ => fun
  | [d1, d2] => { results := [.lit (.bool true)], args := [d1, d2] }
  | _ => none }
def configChecksRow : OpenClaim := { program := "ytmlgcldohaiohaadoor", sum := "a73affaf52208d0115c2570aea50532be68ba7519acfbe910e53f9113d25de06", func := "hawthorn/hawthornlaw08.ConfigChecks", spec := "configChecks", unfollowed := true, recurses := true, named := ["hawthorn/config.names"], apart := false, laid := [("hawthorn/config.names", laid_hawthorn_config_names)] }
def ConfigChecksSaid : Prop := configChecksRow.holds Tryd.pinned (OpenSpec.ofChange configChecksSpec)

/-- ITS FALSE NEIGHBOUR: 'it returns false'. Refute it at one input. -/
def configChecksWrong : ChangeSpec := { name := "configChecks", fn := fun _ => fun
  | [d1, d2] => { results := [.lit (.bool false)], args := [d1, d2] }
  | _ => none }
def ConfigChecksWrongFalsely : Prop := configChecksRow.holds Tryd.pinned (OpenSpec.ofChange configChecksWrong)

/-- 'hawthornlaw08.ConfigEdges': WHATEVER THE INPUT: true; the input reads as it did. -/
def configEdgesSpec : ChangeSpec := { name := "configEdges", fn := fun _ => fun
  | [d1, d2, d3] => { results := [.lit (.bool true)], args := [d1, d2, d3] }
  | _ => none }
def configEdgesRow : OpenClaim := { program := "ytmlgcldohaiohaadoor", sum := "a73affaf52208d0115c2570aea50532be68ba7519acfbe910e53f9113d25de06", func := "hawthorn/hawthornlaw08.ConfigEdges", spec := "configEdges", unfollowed := true, recurses := true, named := ["hawthorn/config.names"], apart := false, laid := [("hawthorn/config.names", laid_hawthorn_config_names)] }
def ConfigEdgesSaid : Prop := configEdgesRow.holds Tryd.pinned (OpenSpec.ofChange configEdgesSpec)

/-- ITS FALSE NEIGHBOUR: 'it returns false'. Refute it at one input. -/
def configEdgesWrong : ChangeSpec := { name := "configEdges", fn := fun _ => fun
  | [d1, d2, d3] => { results := [.lit (.bool false)], args := [d1, d2, d3] }
  | _ => none }
def ConfigEdgesWrongFalsely : Prop := configEdgesRow.holds Tryd.pinned (OpenSpec.ofChange configEdgesWrong)

/-- 'hawthornlaw08.ConfigAlls': WHATEVER THE INPUT: true; the input reads as it did. -/
def configAllsSpec : ChangeSpec := { name := "configAlls", fn := fun _ => fun
  | [d1, d2] => { results := [.lit (.bool true)], args := [d1, d2] }
  | _ => none }
def configAllsRow : OpenClaim := { program := "ytmlgcldohaiohaadoor", sum := "a73affaf52208d0115c2570aea50532be68ba7519acfbe910e53f9113d25de06", func := "hawthorn/hawthornlaw08.ConfigAlls", spec := "configAlls", unfollowed := true, recurses := true, named := ["hawthorn/config.names"], apart := false, laid := [("hawthorn/config.names", laid_hawthorn_config_names)] }
def ConfigAllsSaid : Prop := configAllsRow.holds Tryd.pinned (OpenSpec.ofChange configAllsSpec)

/-- ITS FALSE NEIGHBOUR: 'it returns false'. Refute it at one input. -/
def configAllsWrong : ChangeSpec := { name := "configAlls", fn := fun _ => fun
  | [d1, d2] => { results := [.lit (.bool false)], args := [d1, d2] }
  | _ => none }
def ConfigAllsWrongFalsely : Prop := configAllsRow.holds Tryd.pinned (OpenSpec.ofChange configAllsWrong)

/-- 'hawthornlaw09.OpChecks': WHATEVER THE INPUT: true; the input reads as it did. -/
def opChecksSpec : ChangeSpec := { name := "opChecks", fn := fun _ => fun
  | [d1, d2] => { results := [.lit (.bool true)], args := [d1, d2] }
  | _ => none }
def opChecksRow : OpenClaim := { program := "ytmlgcldohaiohaadoor", sum := "a73affaf52208d0115c2570aea50532be68ba7519acfbe910e53f9113d25de06", func := "hawthorn/hawthornlaw09.OpChecks", spec := "opChecks", unfollowed := true, recurses := true, named := ["hawthorn/op.kinds"], apart := false, laid := [("hawthorn/op.kinds", laid_hawthorn_op_kinds)] }
def OpChecksSaid : Prop := opChecksRow.holds Tryd.pinned (OpenSpec.ofChange opChecksSpec)

/-- ITS FALSE NEIGHBOUR: 'it returns false'. Refute it at one input. -/
def opChecksWrong : ChangeSpec := { name := "opChecks", fn := fun _ => fun
  | [d1, d2] => { results := [.lit (.bool false)], args := [d1, d2] }
  | _ => none }
def OpChecksWrongFalsely : Prop := opChecksRow.holds Tryd.pinned (OpenSpec.ofChange opChecksWrong)

/-- 'hawthornlaw09.OpRegs': WHATEVER THE INPUT: true; the input reads as it did. -/
def opRegsSpec : ChangeSpec := { name := "opRegs", fn := fun _ => fun
  | [d1, d2, d3] => { results := [.lit (.bool true)], args := [d1, d2, d3] }
  | _ => none }
def opRegsRow : OpenClaim := { program := "ytmlgcldohaiohaadoor", sum := "a73affaf52208d0115c2570aea50532be68ba7519acfbe910e53f9113d25de06", func := "hawthorn/hawthornlaw09.OpRegs", spec := "opRegs", named := ["hawthorn/op.kinds"], apart := false, laid := [("hawthorn/op.kinds", laid_hawthorn_op_kinds)] }
def OpRegsSaid : Prop := opRegsRow.holds Tryd.pinned (OpenSpec.ofChange opRegsSpec)

/-- ITS FALSE NEIGHBOUR: 'it returns false'. Refute it at one input. -/
def opRegsWrong : ChangeSpec := { name := "opRegs", fn := fun _ => fun
  | [d1, d2, d3] => { results := [.lit (.bool false)], args := [d1, d2, d3] }
  | _ => none }
def OpRegsWrongFalsely : Prop := opRegsRow.holds Tryd.pinned (OpenSpec.ofChange opRegsWrong)

/-- 'hawthornlaw09.OpLimits': WHATEVER THE INPUT: true; the input reads as it did. -/
def opLimitsSpec : ChangeSpec := { name := "opLimits", fn := fun _ => fun
  | [d1, d2] => { results := [.lit (.bool true)], args := [d1, d2] }
  | _ => none }
def opLimitsRow : OpenClaim := { program := "ytmlgcldohaiohaadoor", sum := "a73affaf52208d0115c2570aea50532be68ba7519acfbe910e53f9113d25de06", func := "hawthorn/hawthornlaw09.OpLimits", spec := "opLimits", named := ["hawthorn/op.kinds"], apart := false, laid := [("hawthorn/op.kinds", laid_hawthorn_op_kinds)] }
def OpLimitsSaid : Prop := opLimitsRow.holds Tryd.pinned (OpenSpec.ofChange opLimitsSpec)

/-- ITS FALSE NEIGHBOUR: 'it returns false'. Refute it at one input. -/
def opLimitsWrong : ChangeSpec := { name := "opLimits", fn := fun _ => fun
  | [d1, d2] => { results := [.lit (.bool false)], args := [d1, d2] }
  | _ => none }
def OpLimitsWrongFalsely : Prop := opLimitsRow.holds Tryd.pinned (OpenSpec.ofChange opLimitsWrong)

/-- 'hawthornlaw08.ConfigAlike': WHATEVER THE INPUT: true; the input reads as it did. -/
def configAlikeSpec : ChangeSpec := { name := "configAlike", fn := fun _ => fun
  | [d1, d2] => { results := [.lit (.bool true)], args := [d1, d2] }
  | _ => none }
def configAlikeRow : OpenClaim := { program := "ytmlgcldohaiohaadoor", sum := "a73affaf52208d0115c2570aea50532be68ba7519acfbe910e53f9113d25de06", func := "hawthorn/hawthornlaw08.ConfigAlike", spec := "configAlike", unfollowed := true, recurses := true, named := ["hawthorn/config.names"], apart := false, laid := [("hawthorn/config.names", laid_hawthorn_config_names)] }
def ConfigAlikeSaid : Prop := configAlikeRow.holds Tryd.pinned (OpenSpec.ofChange configAlikeSpec)

/-- ITS FALSE NEIGHBOUR: 'it returns false'. Refute it at one input. -/
def configAlikeWrong : ChangeSpec := { name := "configAlike", fn := fun _ => fun
  | [d1, d2] => { results := [.lit (.bool false)], args := [d1, d2] }
  | _ => none }
def ConfigAlikeWrongFalsely : Prop := configAlikeRow.holds Tryd.pinned (OpenSpec.ofChange configAlikeWrong)

/-- 'hawthornlaw08.ConfigNames': WHATEVER THE INPUT: true; the input reads as it did. -/
def configNamesSpec : ChangeSpec := { name := "configNames", fn := fun _ => fun
  | [d1, d2, d3] => { results := [.lit (.bool true)], args := [d1, d2, d3] }
  | _ => none }
def configNamesRow : OpenClaim := { program := "ytmlgcldohaiohaadoor", sum := "a73affaf52208d0115c2570aea50532be68ba7519acfbe910e53f9113d25de06", func := "hawthorn/hawthornlaw08.ConfigNames", spec := "configNames", unfollowed := true, recurses := true, named := ["hawthorn/config.names"], apart := false, laid := [("hawthorn/config.names", laid_hawthorn_config_names)] }
def ConfigNamesSaid : Prop := configNamesRow.holds Tryd.pinned (OpenSpec.ofChange configNamesSpec)

/-- ITS FALSE NEIGHBOUR: 'it returns false'. Refute it at one input. -/
def configNamesWrong : ChangeSpec := { name := "configNames", fn := fun _ => fun
  | [d1, d2, d3] => { results := [.lit (.bool false)], args := [d1, d2, d3] }
  | _ => none }
def ConfigNamesWrongFalsely : Prop := configNamesRow.holds Tryd.pinned (OpenSpec.ofChange configNamesWrong)

/- THE SECOND FORM. 'bulk': how many values and letters a reading holds, each counted each time it is reached (what is shared counts as often as it is met; a slice's spare places count too). A statement '..UptoSaid' is the law's where the arguments, and the package variables that the reading takes, are together of bulk at most 1048576: NARROWER than '..Said'. Prove '..Said' where nothing that the law and all that it calls make is longer than what came in: it says more and counts as full. Else prove '..UptoSaid'. A law counts once. -/
mutual
def uptoBulk {H : Type} : DataW H → Nat
  | .lit (.string bytes) => bytes.length + 1
  | .lit _ => 1
  | .nil => 1
  | .ptr d => uptoBulk d + 1
  | .slice elems spare => uptoBulkAll elems + uptoBulkAll spare + 1
  | .agg parts => uptoBulkAll parts + 1
  | .iface _ d => uptoBulk d + 1
  | .map entries => uptoBulkEntries entries + 1
  | .held _ => 1
def uptoBulkAll {H : Type} : List (DataW H) → Nat
  | [] => 0
  | d :: r => uptoBulk d + uptoBulkAll r
def uptoBulkEntries {H : Type} : List (Lit × DataW H) → Nat
  | [] => 0
  | x :: r => uptoBulkEntry x + uptoBulkEntries r
def uptoBulkEntry {H : Type} : Lit × DataW H → Nat
  | (.string bytes, d) => bytes.length + uptoBulk d + 1
  | (_, d) => uptoBulk d + 1
 end
def uptoSmall : (H : Type) → List (DataW H) → Bool := fun _ ds => decide (uptoBulkAll ds ≤ 1048576)
def OpenSpec.upto (s : _root_.Go.ChangeSpec) : _root_.Go.OpenSpec := { _root_.Go.OpenSpec.ofChange s with cond := some uptoSmall }

/-- 'hawthornlaw09.OpNames', WHERE WHAT IT READS IS OF BULK AT MOST 1048576: true; the input reads as it did. -/
def opNamesUptoRow : OpenClaim := { program := "ytmlgcldohaiohaadoor", sum := "a73affaf52208d0115c2570aea50532be68ba7519acfbe910e53f9113d25de06", func := "hawthorn/hawthornlaw09.OpNames", spec := "opNames", named := ["hawthorn/op.kinds"], apart := false, laid := [("hawthorn/op.kinds", laid_hawthorn_op_kinds)], narrowed := true }
def OpNamesUptoSaid : Prop := opNamesUptoRow.holds Tryd.pinned (OpenSpec.upto opNamesSpec)

/-- 'hawthornlaw09.OpSpells', WHERE WHAT IT READS IS OF BULK AT MOST 1048576: true; the input reads as it did. -/
def opSpellsUptoRow : OpenClaim := { program := "ytmlgcldohaiohaadoor", sum := "a73affaf52208d0115c2570aea50532be68ba7519acfbe910e53f9113d25de06", func := "hawthorn/hawthornlaw09.OpSpells", spec := "opSpells", named := ["hawthorn/op.kinds"], apart := false, laid := [("hawthorn/op.kinds", laid_hawthorn_op_kinds)], narrowed := true }
def OpSpellsUptoSaid : Prop := opSpellsUptoRow.holds Tryd.pinned (OpenSpec.upto opSpellsSpec)

/-- 'hawthornlaw08.ConfigChecks', WHERE WHAT IT READS IS OF BULK AT MOST 1048576: true; the input reads as it did. -/
def configChecksUptoRow : OpenClaim := { program := "ytmlgcldohaiohaadoor", sum := "a73affaf52208d0115c2570aea50532be68ba7519acfbe910e53f9113d25de06", func := "hawthorn/hawthornlaw08.ConfigChecks", spec := "configChecks", unfollowed := true, recurses := true, named := ["hawthorn/config.names"], apart := false, laid := [("hawthorn/config.names", laid_hawthorn_config_names)], narrowed := true }
def ConfigChecksUptoSaid : Prop := configChecksUptoRow.holds Tryd.pinned (OpenSpec.upto configChecksSpec)

/-- 'hawthornlaw08.ConfigEdges', WHERE WHAT IT READS IS OF BULK AT MOST 1048576: true; the input reads as it did. -/
def configEdgesUptoRow : OpenClaim := { program := "ytmlgcldohaiohaadoor", sum := "a73affaf52208d0115c2570aea50532be68ba7519acfbe910e53f9113d25de06", func := "hawthorn/hawthornlaw08.ConfigEdges", spec := "configEdges", unfollowed := true, recurses := true, named := ["hawthorn/config.names"], apart := false, laid := [("hawthorn/config.names", laid_hawthorn_config_names)], narrowed := true }
def ConfigEdgesUptoSaid : Prop := configEdgesUptoRow.holds Tryd.pinned (OpenSpec.upto configEdgesSpec)

/-- 'hawthornlaw08.ConfigAlls', WHERE WHAT IT READS IS OF BULK AT MOST 1048576: true; the input reads as it did. -/
def configAllsUptoRow : OpenClaim := { program := "ytmlgcldohaiohaadoor", sum := "a73affaf52208d0115c2570aea50532be68ba7519acfbe910e53f9113d25de06", func := "hawthorn/hawthornlaw08.ConfigAlls", spec := "configAlls", unfollowed := true, recurses := true, named := ["hawthorn/config.names"], apart := false, laid := [("hawthorn/config.names", laid_hawthorn_config_names)], narrowed := true }
def ConfigAllsUptoSaid : Prop := configAllsUptoRow.holds Tryd.pinned (OpenSpec.upto configAllsSpec)

/-- 'hawthornlaw09.OpChecks', WHERE WHAT IT READS IS OF BULK AT MOST 1048576: true; the input reads as it did. -/
def opChecksUptoRow : OpenClaim := { program := "ytmlgcldohaiohaadoor", sum := "a73affaf52208d0115c2570aea50532be68ba7519acfbe910e53f9113d25de06", func := "hawthorn/hawthornlaw09.OpChecks", spec := "opChecks", unfollowed := true, recurses := true, named := ["hawthorn/op.kinds"], apart := false, laid := [("hawthorn/op.kinds", laid_hawthorn_op_kinds)], narrowed := true }
def OpChecksUptoSaid : Prop := opChecksUptoRow.holds Tryd.pinned (OpenSpec.upto opChecksSpec)

/-- 'hawthornlaw09.OpRegs', WHERE WHAT IT READS IS OF BULK AT MOST 1048576: true; the input reads as it did. -/
def opRegsUptoRow : OpenClaim := { program := "ytmlgcldohaiohaadoor", sum := "a73affaf52208d0115c2570aea50532be68ba7519acfbe910e53f9113d25de06", func := "hawthorn/hawthornlaw09.OpRegs", spec := "opRegs", named := ["hawthorn/op.kinds"], apart := false, laid := [("hawthorn/op.kinds", laid_hawthorn_op_kinds)], narrowed := true }
def OpRegsUptoSaid : Prop := opRegsUptoRow.holds Tryd.pinned (OpenSpec.upto opRegsSpec)

/-- 'hawthornlaw09.OpLimits', WHERE WHAT IT READS IS OF BULK AT MOST 1048576: true; the input reads as it did. -/
def opLimitsUptoRow : OpenClaim := { program := "ytmlgcldohaiohaadoor", sum := "a73affaf52208d0115c2570aea50532be68ba7519acfbe910e53f9113d25de06", func := "hawthorn/hawthornlaw09.OpLimits", spec := "opLimits", named := ["hawthorn/op.kinds"], apart := false, laid := [("hawthorn/op.kinds", laid_hawthorn_op_kinds)], narrowed := true }
def OpLimitsUptoSaid : Prop := opLimitsUptoRow.holds Tryd.pinned (OpenSpec.upto opLimitsSpec)

/-- 'hawthornlaw08.ConfigAlike', WHERE WHAT IT READS IS OF BULK AT MOST 1048576: true; the input reads as it did. -/
def configAlikeUptoRow : OpenClaim := { program := "ytmlgcldohaiohaadoor", sum := "a73affaf52208d0115c2570aea50532be68ba7519acfbe910e53f9113d25de06", func := "hawthorn/hawthornlaw08.ConfigAlike", spec := "configAlike", unfollowed := true, recurses := true, named := ["hawthorn/config.names"], apart := false, laid := [("hawthorn/config.names", laid_hawthorn_config_names)], narrowed := true }
def ConfigAlikeUptoSaid : Prop := configAlikeUptoRow.holds Tryd.pinned (OpenSpec.upto configAlikeSpec)

/-- 'hawthornlaw08.ConfigNames', WHERE WHAT IT READS IS OF BULK AT MOST 1048576: true; the input reads as it did. -/
def configNamesUptoRow : OpenClaim := { program := "ytmlgcldohaiohaadoor", sum := "a73affaf52208d0115c2570aea50532be68ba7519acfbe910e53f9113d25de06", func := "hawthorn/hawthornlaw08.ConfigNames", spec := "configNames", unfollowed := true, recurses := true, named := ["hawthorn/config.names"], apart := false, laid := [("hawthorn/config.names", laid_hawthorn_config_names)], narrowed := true }
def ConfigNamesUptoSaid : Prop := configNamesUptoRow.holds Tryd.pinned (OpenSpec.upto configNamesSpec)

end Rows
end Go.Proofs.YtmlgcldohaiohaaDoor
