/-
  DERIVED. GIVEN WITH THE SEED: THE CARDS: each row of YtmlgcldohaiohaaDoorRows.lean that lists a variable, with what it lists TIED to the program's text (the seventh form; the later family's looks); each row that meets fmt, with fmt's text TOLD by the authors' own Lean function (tested against real Go, not proved from fmt's source: count such statements apart). THE CARD IS WHAT COUNTS. Prove the row's statement (the work); the ties are given (YtmlgcldohaiohaaDoorTie.lean); close each card by the builder's one call (the guide's Derived/Test/ToyasCard.lean, 'card_holds'). Laid BY PROGRAM, IN A SANDBOX (cutbox-door.mjs). By AI agents, Wed Nov 11 2026. No macro, syntax, notation, axiom, sorry.
-/
import Derived.Test.YtmlgcldohaiohaaDoorRows
import GoSem.ClaimSeven
namespace Go.Proofs.YtmlgcldohaiohaaDoor
namespace Rows

/-- THE TIED CARD OF 'hawthornlaw09.OpNames'. -/
def opNamesCard : Claim7 := { stood := { row := opNamesRow, standIns := [], harness := (true, "30cf62ed83ab5bfdb83d03c9af2605c973fa337839dfff749b771d4211b0ce40"), looks := false }, kinds := [], alts := [], laidByText := true, laidKinds := [.data], laidTests := true, laidLooks := .later }
def OpNamesCardSaid : Prop := Claim7.holds Tryd.pinned (.plain (OpenSpec.ofChange opNamesSpec)) opNamesCard

/-- THE TIED CARD OF 'hawthornlaw09.OpSpells'. -/
def opSpellsCard : Claim7 := { stood := { row := opSpellsRow, standIns := [], harness := (true, "30cf62ed83ab5bfdb83d03c9af2605c973fa337839dfff749b771d4211b0ce40"), looks := false }, kinds := [], alts := [], laidByText := true, laidKinds := [.data], laidTests := true, laidLooks := .later }
def OpSpellsCardSaid : Prop := Claim7.holds Tryd.pinned (.plain (OpenSpec.ofChange opSpellsSpec)) opSpellsCard

/-- THE TIED CARD OF 'hawthornlaw08.ConfigChecks'. -/
def configChecksCard : Claim7 := { stood := { row := configChecksRow, standIns := [], harness := (true, "30cf62ed83ab5bfdb83d03c9af2605c973fa337839dfff749b771d4211b0ce40"), looks := false }, kinds := [], alts := [], laidByText := true, laidKinds := [.data], laidTests := true, laidLooks := .later }
def ConfigChecksCardSaid : Prop := Claim7.holds Tryd.pinned (.plain (OpenSpec.ofChange configChecksSpec)) configChecksCard

/-- THE TIED CARD OF 'hawthornlaw08.ConfigEdges'. -/
def configEdgesCard : Claim7 := { stood := { row := configEdgesRow, standIns := [], harness := (true, "30cf62ed83ab5bfdb83d03c9af2605c973fa337839dfff749b771d4211b0ce40"), looks := false }, kinds := [], alts := [], laidByText := true, laidKinds := [.data], laidTests := true, laidLooks := .later }
def ConfigEdgesCardSaid : Prop := Claim7.holds Tryd.pinned (.plain (OpenSpec.ofChange configEdgesSpec)) configEdgesCard

/-- THE TIED CARD OF 'hawthornlaw08.ConfigAlls'. -/
def configAllsCard : Claim7 := { stood := { row := configAllsRow, standIns := [], harness := (true, "30cf62ed83ab5bfdb83d03c9af2605c973fa337839dfff749b771d4211b0ce40"), looks := false }, kinds := [], alts := [], laidByText := true, laidKinds := [.data], laidTests := true, laidLooks := .later }
def ConfigAllsCardSaid : Prop := Claim7.holds Tryd.pinned (.plain (OpenSpec.ofChange configAllsSpec)) configAllsCard

/-- THE TIED CARD OF 'hawthornlaw09.OpChecks'. -/
def opChecksCard : Claim7 := { stood := { row := opChecksRow, standIns := [], harness := (true, "30cf62ed83ab5bfdb83d03c9af2605c973fa337839dfff749b771d4211b0ce40"), looks := false }, kinds := [], alts := [], laidByText := true, laidKinds := [.data], laidTests := true, laidLooks := .later }
def OpChecksCardSaid : Prop := Claim7.holds Tryd.pinned (.plain (OpenSpec.ofChange opChecksSpec)) opChecksCard

/-- THE TIED CARD OF 'hawthornlaw09.OpRegs'. -/
def opRegsCard : Claim7 := { stood := { row := opRegsRow, standIns := [], harness := (true, "30cf62ed83ab5bfdb83d03c9af2605c973fa337839dfff749b771d4211b0ce40"), looks := false }, kinds := [], alts := [], laidByText := true, laidKinds := [.data], laidTests := true, laidLooks := .later }
def OpRegsCardSaid : Prop := Claim7.holds Tryd.pinned (.plain (OpenSpec.ofChange opRegsSpec)) opRegsCard

/-- THE TIED CARD OF 'hawthornlaw09.OpLimits'. -/
def opLimitsCard : Claim7 := { stood := { row := opLimitsRow, standIns := [], harness := (true, "30cf62ed83ab5bfdb83d03c9af2605c973fa337839dfff749b771d4211b0ce40"), looks := false }, kinds := [], alts := [], laidByText := true, laidKinds := [.data], laidTests := true, laidLooks := .later }
def OpLimitsCardSaid : Prop := Claim7.holds Tryd.pinned (.plain (OpenSpec.ofChange opLimitsSpec)) opLimitsCard

/-- THE TIED CARD OF 'hawthornlaw08.ConfigAlike'. -/
def configAlikeCard : Claim7 := { stood := { row := configAlikeRow, standIns := [], harness := (true, "30cf62ed83ab5bfdb83d03c9af2605c973fa337839dfff749b771d4211b0ce40"), looks := false }, kinds := [], alts := [], laidByText := true, laidKinds := [.data], laidTests := true, laidLooks := .later }
def ConfigAlikeCardSaid : Prop := Claim7.holds Tryd.pinned (.plain (OpenSpec.ofChange configAlikeSpec)) configAlikeCard

/-- THE TIED CARD OF 'hawthornlaw08.ConfigNames'. -/
def configNamesCard : Claim7 := { stood := { row := configNamesRow, standIns := [], harness := (true, "30cf62ed83ab5bfdb83d03c9af2605c973fa337839dfff749b771d4211b0ce40"), looks := false }, kinds := [], alts := [], laidByText := true, laidKinds := [.data], laidTests := true, laidLooks := .later }
def ConfigNamesCardSaid : Prop := Claim7.holds Tryd.pinned (.plain (OpenSpec.ofChange configNamesSpec)) configNamesCard

/-- THE SECOND FORM's CARD OF 'hawthornlaw09.OpNames'. -/
def opNamesUptoCard : Claim7 := { stood := { row := opNamesUptoRow, standIns := [], harness := (true, "30cf62ed83ab5bfdb83d03c9af2605c973fa337839dfff749b771d4211b0ce40"), looks := false }, kinds := [], alts := [], laidByText := true, laidKinds := [.data], laidTests := true, laidLooks := .later }
def OpNamesUptoCardSaid : Prop := Claim7.holds Tryd.pinned (.plain (OpenSpec.upto opNamesSpec)) opNamesUptoCard

/-- THE SECOND FORM's CARD OF 'hawthornlaw09.OpSpells'. -/
def opSpellsUptoCard : Claim7 := { stood := { row := opSpellsUptoRow, standIns := [], harness := (true, "30cf62ed83ab5bfdb83d03c9af2605c973fa337839dfff749b771d4211b0ce40"), looks := false }, kinds := [], alts := [], laidByText := true, laidKinds := [.data], laidTests := true, laidLooks := .later }
def OpSpellsUptoCardSaid : Prop := Claim7.holds Tryd.pinned (.plain (OpenSpec.upto opSpellsSpec)) opSpellsUptoCard

/-- THE SECOND FORM's CARD OF 'hawthornlaw08.ConfigChecks'. -/
def configChecksUptoCard : Claim7 := { stood := { row := configChecksUptoRow, standIns := [], harness := (true, "30cf62ed83ab5bfdb83d03c9af2605c973fa337839dfff749b771d4211b0ce40"), looks := false }, kinds := [], alts := [], laidByText := true, laidKinds := [.data], laidTests := true, laidLooks := .later }
def ConfigChecksUptoCardSaid : Prop := Claim7.holds Tryd.pinned (.plain (OpenSpec.upto configChecksSpec)) configChecksUptoCard

/-- THE SECOND FORM's CARD OF 'hawthornlaw08.ConfigEdges'. -/
def configEdgesUptoCard : Claim7 := { stood := { row := configEdgesUptoRow, standIns := [], harness := (true, "30cf62ed83ab5bfdb83d03c9af2605c973fa337839dfff749b771d4211b0ce40"), looks := false }, kinds := [], alts := [], laidByText := true, laidKinds := [.data], laidTests := true, laidLooks := .later }
def ConfigEdgesUptoCardSaid : Prop := Claim7.holds Tryd.pinned (.plain (OpenSpec.upto configEdgesSpec)) configEdgesUptoCard

/-- THE SECOND FORM's CARD OF 'hawthornlaw08.ConfigAlls'. -/
def configAllsUptoCard : Claim7 := { stood := { row := configAllsUptoRow, standIns := [], harness := (true, "30cf62ed83ab5bfdb83d03c9af2605c973fa337839dfff749b771d4211b0ce40"), looks := false }, kinds := [], alts := [], laidByText := true, laidKinds := [.data], laidTests := true, laidLooks := .later }
def ConfigAllsUptoCardSaid : Prop := Claim7.holds Tryd.pinned (.plain (OpenSpec.upto configAllsSpec)) configAllsUptoCard

/-- THE SECOND FORM's CARD OF 'hawthornlaw09.OpChecks'. -/
def opChecksUptoCard : Claim7 := { stood := { row := opChecksUptoRow, standIns := [], harness := (true, "30cf62ed83ab5bfdb83d03c9af2605c973fa337839dfff749b771d4211b0ce40"), looks := false }, kinds := [], alts := [], laidByText := true, laidKinds := [.data], laidTests := true, laidLooks := .later }
def OpChecksUptoCardSaid : Prop := Claim7.holds Tryd.pinned (.plain (OpenSpec.upto opChecksSpec)) opChecksUptoCard

/-- THE SECOND FORM's CARD OF 'hawthornlaw09.OpRegs'. -/
def opRegsUptoCard : Claim7 := { stood := { row := opRegsUptoRow, standIns := [], harness := (true, "30cf62ed83ab5bfdb83d03c9af2605c973fa337839dfff749b771d4211b0ce40"), looks := false }, kinds := [], alts := [], laidByText := true, laidKinds := [.data], laidTests := true, laidLooks := .later }
def OpRegsUptoCardSaid : Prop := Claim7.holds Tryd.pinned (.plain (OpenSpec.upto opRegsSpec)) opRegsUptoCard

/-- THE SECOND FORM's CARD OF 'hawthornlaw09.OpLimits'. -/
def opLimitsUptoCard : Claim7 := { stood := { row := opLimitsUptoRow, standIns := [], harness := (true, "30cf62ed83ab5bfdb83d03c9af2605c973fa337839dfff749b771d4211b0ce40"), looks := false }, kinds := [], alts := [], laidByText := true, laidKinds := [.data], laidTests := true, laidLooks := .later }
def OpLimitsUptoCardSaid : Prop := Claim7.holds Tryd.pinned (.plain (OpenSpec.upto opLimitsSpec)) opLimitsUptoCard

/-- THE SECOND FORM's CARD OF 'hawthornlaw08.ConfigAlike'. -/
def configAlikeUptoCard : Claim7 := { stood := { row := configAlikeUptoRow, standIns := [], harness := (true, "30cf62ed83ab5bfdb83d03c9af2605c973fa337839dfff749b771d4211b0ce40"), looks := false }, kinds := [], alts := [], laidByText := true, laidKinds := [.data], laidTests := true, laidLooks := .later }
def ConfigAlikeUptoCardSaid : Prop := Claim7.holds Tryd.pinned (.plain (OpenSpec.upto configAlikeSpec)) configAlikeUptoCard

/-- THE SECOND FORM's CARD OF 'hawthornlaw08.ConfigNames'. -/
def configNamesUptoCard : Claim7 := { stood := { row := configNamesUptoRow, standIns := [], harness := (true, "30cf62ed83ab5bfdb83d03c9af2605c973fa337839dfff749b771d4211b0ce40"), looks := false }, kinds := [], alts := [], laidByText := true, laidKinds := [.data], laidTests := true, laidLooks := .later }
def ConfigNamesUptoCardSaid : Prop := Claim7.holds Tryd.pinned (.plain (OpenSpec.upto configNamesSpec)) configNamesUptoCard
end Rows
end Go.Proofs.YtmlgcldohaiohaaDoor
