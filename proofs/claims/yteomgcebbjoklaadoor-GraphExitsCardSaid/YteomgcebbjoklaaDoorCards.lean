/-
  DERIVED. GIVEN WITH THE SEED: THE CARDS: each row of YteomgcebbjoklaaDoorRows.lean that lists a variable, with what it lists TIED to the program's text (the seventh form; the later family's looks); each row that meets fmt, with fmt's text TOLD by the authors' own Lean function (tested against real Go, not proved from fmt's source: count such statements apart). THE CARD IS WHAT COUNTS. Prove the row's statement (the work); the ties are given (YteomgcebbjoklaaDoorTie.lean); close each card by the builder's one call (the guide's Derived/Test/ToyasCard.lean, 'card_holds'). Laid BY PROGRAM, IN A SANDBOX (cutbox-door.mjs). By AI agents, Wed Nov 11 2026. No macro, syntax, notation, axiom, sorry.
-/
import Derived.Test.YteomgcebbjoklaaDoorRows
import GoSem.ClaimSeven
namespace Go.Proofs.YteomgcebbjoklaaDoor
namespace Rows

/-- THE TIED CARD OF 'hawthornlaw20.GraphFresh'. -/
def graphFreshCard : Claim7 := { stood := { row := graphFreshRow, standIns := [], harness := (true, "12d0b52fa7a5dd7684ea511cd5b72098935566ec41ccb470ac0d7dc0b222c906"), looks := false }, kinds := [], alts := [], laidByText := true, laidKinds := [.data], laidTests := true, laidLooks := .later }
def GraphFreshCardSaid : Prop := Claim7.holds Tryd.pinned (.plain (OpenSpec.ofChange graphFreshSpec)) graphFreshCard

/-- THE TIED CARD OF 'hawthornlaw20.GraphAt'. -/
def graphAtCard : Claim7 := { stood := { row := graphAtRow, standIns := [], harness := (true, "12d0b52fa7a5dd7684ea511cd5b72098935566ec41ccb470ac0d7dc0b222c906"), looks := false }, kinds := [], alts := [], laidByText := true, laidKinds := [.data], laidTests := true, laidLooks := .later }
def GraphAtCardSaid : Prop := Claim7.holds Tryd.pinned (.plain (OpenSpec.ofChange graphAtSpec)) graphAtCard

/-- THE TIED CARD OF 'hawthornlaw20.GraphExits'. -/
def graphExitsCard : Claim7 := { stood := { row := graphExitsRow, standIns := [], harness := (true, "12d0b52fa7a5dd7684ea511cd5b72098935566ec41ccb470ac0d7dc0b222c906"), looks := false }, kinds := [], alts := [], laidByText := true, laidKinds := [.data], laidTests := true, laidLooks := .later }
def GraphExitsCardSaid : Prop := Claim7.holds Tryd.pinned (.plain (OpenSpec.ofChange graphExitsSpec)) graphExitsCard

/-- THE TIED CARD OF 'hawthornlaw20.GraphQuiet'. -/
def graphQuietCard : Claim7 := { stood := { row := graphQuietRow, standIns := [], harness := (true, "12d0b52fa7a5dd7684ea511cd5b72098935566ec41ccb470ac0d7dc0b222c906"), looks := false }, kinds := [], alts := [], laidByText := true, laidKinds := [.data], laidTests := true, laidLooks := .later }
def GraphQuietCardSaid : Prop := Claim7.holds Tryd.pinned (.plain (OpenSpec.ofChange graphQuietSpec)) graphQuietCard

/-- THE SECOND FORM's CARD OF 'hawthornlaw20.GraphFresh'. -/
def graphFreshUptoCard : Claim7 := { stood := { row := graphFreshUptoRow, standIns := [], harness := (true, "12d0b52fa7a5dd7684ea511cd5b72098935566ec41ccb470ac0d7dc0b222c906"), looks := false }, kinds := [], alts := [], laidByText := true, laidKinds := [.data], laidTests := true, laidLooks := .later }
def GraphFreshUptoCardSaid : Prop := Claim7.holds Tryd.pinned (.plain (OpenSpec.upto graphFreshSpec)) graphFreshUptoCard

/-- THE SECOND FORM's CARD OF 'hawthornlaw20.GraphAt'. -/
def graphAtUptoCard : Claim7 := { stood := { row := graphAtUptoRow, standIns := [], harness := (true, "12d0b52fa7a5dd7684ea511cd5b72098935566ec41ccb470ac0d7dc0b222c906"), looks := false }, kinds := [], alts := [], laidByText := true, laidKinds := [.data], laidTests := true, laidLooks := .later }
def GraphAtUptoCardSaid : Prop := Claim7.holds Tryd.pinned (.plain (OpenSpec.upto graphAtSpec)) graphAtUptoCard

/-- THE SECOND FORM's CARD OF 'hawthornlaw20.GraphExits'. -/
def graphExitsUptoCard : Claim7 := { stood := { row := graphExitsUptoRow, standIns := [], harness := (true, "12d0b52fa7a5dd7684ea511cd5b72098935566ec41ccb470ac0d7dc0b222c906"), looks := false }, kinds := [], alts := [], laidByText := true, laidKinds := [.data], laidTests := true, laidLooks := .later }
def GraphExitsUptoCardSaid : Prop := Claim7.holds Tryd.pinned (.plain (OpenSpec.upto graphExitsSpec)) graphExitsUptoCard

/-- THE SECOND FORM's CARD OF 'hawthornlaw20.GraphQuiet'. -/
def graphQuietUptoCard : Claim7 := { stood := { row := graphQuietUptoRow, standIns := [], harness := (true, "12d0b52fa7a5dd7684ea511cd5b72098935566ec41ccb470ac0d7dc0b222c906"), looks := false }, kinds := [], alts := [], laidByText := true, laidKinds := [.data], laidTests := true, laidLooks := .later }
def GraphQuietUptoCardSaid : Prop := Claim7.holds Tryd.pinned (.plain (OpenSpec.upto graphQuietSpec)) graphQuietUptoCard
end Rows
end Go.Proofs.YteomgcebbjoklaaDoor
