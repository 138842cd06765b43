/-
  DERIVED. GIVEN WITH THE SEED: THE CARDS: each row of YtliabgcpciekpaaDoorRows.lean that lists a variable, with what it lists TIED to the program's text (the seventh form; the later family's looks); each row that meets fmt, with fmt's text TOLD by the authors' own Lean function (tested against real Go, not proved from fmt's source: count such statements apart). THE CARD IS WHAT COUNTS. Prove the row's statement (the work); the ties are given (YtliabgcpciekpaaDoorTie.lean); close each card by the builder's one call (the guide's Derived/Test/ToyasCard.lean, 'card_holds'). Laid BY PROGRAM, IN A SANDBOX (cutbox-door.mjs). By AI agents, Wed Nov 11 2026. No macro, syntax, notation, axiom, sorry.
-/
import Derived.Test.YtliabgcpciekpaaDoorRows
import GoSem.ClaimSeven
namespace Go.Proofs.YtliabgcpciekpaaDoor
namespace Rows

/-- THE TIED CARD OF 'regletlaw09.StylePrints'. -/
def stylePrintsCard : Claim7 := { stood := { row := stylePrintsRow, standIns := [], harness := (true, "324a04b2551ad30c4902d8b9c53997955a82c4c034c138bacb27c8fcd704fdb0"), looks := false }, kinds := [], alts := [], laidByText := true, laidKinds := [.data, .data, .data], laidTests := true, laidLooks := .later }
def StylePrintsCardSaid : Prop := Claim7.holds Tryd.pinned (.plain (OpenSpec.ofChange stylePrintsSpec)) stylePrintsCard

/-- THE TIED CARD OF 'regletlaw09.StyleReads'. -/
def styleReadsCard : Claim7 := { stood := { row := styleReadsRow, standIns := [], harness := (true, "324a04b2551ad30c4902d8b9c53997955a82c4c034c138bacb27c8fcd704fdb0"), looks := false }, kinds := [], alts := [], laidByText := true, laidKinds := [.data, .pinned], laidTests := true, laidLooks := .later }
def StyleReadsCardSaid : Prop := Claim7.holds Tryd.pinned (.plain (OpenSpec.ofChange styleReadsSpec)) styleReadsCard

/-- THE TIED CARD OF 'regletlaw09.StyleOrder'. -/
def styleOrderCard : Claim7 := { stood := { row := styleOrderRow, standIns := [], harness := (true, "324a04b2551ad30c4902d8b9c53997955a82c4c034c138bacb27c8fcd704fdb0"), looks := false }, kinds := [], alts := [], laidByText := true, laidKinds := [.data, .pinned], laidTests := true, laidLooks := .later }
def StyleOrderCardSaid : Prop := Claim7.holds Tryd.pinned (.plain (OpenSpec.ofChange styleOrderSpec)) styleOrderCard

/-- THE TIED CARD OF 'regletlaw22.TreeNear'. -/
def treeNearCard : Claim7 := { stood := { row := treeNearRow, standIns := [], harness := (true, "324a04b2551ad30c4902d8b9c53997955a82c4c034c138bacb27c8fcd704fdb0"), looks := false }, kinds := [], alts := [], laidByText := true, laidKinds := [.data, .pinned], laidTests := true, laidLooks := .later }
def TreeNearCardSaid : Prop := Claim7.holds Tryd.pinned (.plain (OpenSpec.ofChange treeNearSpec)) treeNearCard

/-- THE TIED CARD OF 'regletlaw22.TreeUnder'. -/
def treeUnderCard : Claim7 := { stood := { row := treeUnderRow, standIns := [], harness := (true, "324a04b2551ad30c4902d8b9c53997955a82c4c034c138bacb27c8fcd704fdb0"), looks := false }, kinds := [], alts := [], laidByText := true, laidKinds := [.data, .pinned], laidTests := true, laidLooks := .later }
def TreeUnderCardSaid : Prop := Claim7.holds Tryd.pinned (.plain (OpenSpec.ofChange treeUnderSpec)) treeUnderCard

/-- THE TIED CARD OF 'regletlaw22.TreeHolds'. -/
def treeHoldsCard : Claim7 := { stood := { row := treeHoldsRow, standIns := [], harness := (true, "324a04b2551ad30c4902d8b9c53997955a82c4c034c138bacb27c8fcd704fdb0"), looks := false }, kinds := [], alts := [], laidByText := true, laidKinds := [.data, .pinned], laidTests := true, laidLooks := .later }
def TreeHoldsCardSaid : Prop := Claim7.holds Tryd.pinned (.plain (OpenSpec.ofChange treeHoldsSpec)) treeHoldsCard

/-- THE TIED CARD OF 'regletlaw09.StyleNames'. -/
def styleNamesCard : Claim7 := { stood := { row := styleNamesRow, standIns := [], harness := (true, "324a04b2551ad30c4902d8b9c53997955a82c4c034c138bacb27c8fcd704fdb0"), looks := false }, kinds := [], alts := [], laidByText := true, laidKinds := [.data, .data, .data, .data, .pinned], laidTests := true, laidLooks := .later }
def StyleNamesCardSaid : Prop := Claim7.holds Tryd.pinned (.plain (OpenSpec.ofChange styleNamesSpec)) styleNamesCard

/-- THE TIED CARD OF 'regletlaw09.StyleBack'. -/
def styleBackCard : Claim7 := { stood := { row := styleBackRow, standIns := [], harness := (true, "324a04b2551ad30c4902d8b9c53997955a82c4c034c138bacb27c8fcd704fdb0"), looks := false }, kinds := [], alts := [], laidByText := true, laidKinds := [.data, .data, .data, .data, .pinned], laidTests := true, laidLooks := .later }
def StyleBackCardSaid : Prop := Claim7.holds Tryd.pinned (.plain (OpenSpec.ofChange styleBackSpec)) styleBackCard

/-- THE TIED CARD OF 'regletlaw22.TreeTells'. -/
def treeTellsCard : Claim7 := { stood := { row := treeTellsRow, standIns := [], harness := (true, "324a04b2551ad30c4902d8b9c53997955a82c4c034c138bacb27c8fcd704fdb0"), looks := false }, kinds := [], alts := [], laidByText := true, laidKinds := [.data, .pinned], laidTests := true, laidLooks := .later }
def TreeTellsCardSaid : Prop := Claim7.holds Tryd.pinned (.plain (OpenSpec.ofChange treeTellsSpec)) treeTellsCard

/-- THE TIED CARD OF 'regletlaw22.TreeNames'. -/
def treeNamesCard : Claim7 := { stood := { row := treeNamesRow, standIns := [], harness := (true, "324a04b2551ad30c4902d8b9c53997955a82c4c034c138bacb27c8fcd704fdb0"), looks := false }, kinds := [], alts := [], laidByText := true, laidKinds := [.data, .pinned], laidTests := true, laidLooks := .later }
def TreeNamesCardSaid : Prop := Claim7.holds Tryd.pinned (.plain (OpenSpec.ofChange treeNamesSpec)) treeNamesCard

/-- THE SECOND FORM's CARD OF 'regletlaw09.StylePrints'. -/
def stylePrintsUptoCard : Claim7 := { stood := { row := stylePrintsUptoRow, standIns := [], harness := (true, "324a04b2551ad30c4902d8b9c53997955a82c4c034c138bacb27c8fcd704fdb0"), looks := false }, kinds := [], alts := [], laidByText := true, laidKinds := [.data, .data, .data], laidTests := true, laidLooks := .later }
def StylePrintsUptoCardSaid : Prop := Claim7.holds Tryd.pinned (.plain (OpenSpec.upto stylePrintsSpec)) stylePrintsUptoCard

/-- THE SECOND FORM's CARD OF 'regletlaw09.StyleReads'. -/
def styleReadsUptoCard : Claim7 := { stood := { row := styleReadsUptoRow, standIns := [], harness := (true, "324a04b2551ad30c4902d8b9c53997955a82c4c034c138bacb27c8fcd704fdb0"), looks := false }, kinds := [], alts := [], laidByText := true, laidKinds := [.data, .pinned], laidTests := true, laidLooks := .later }
def StyleReadsUptoCardSaid : Prop := Claim7.holds Tryd.pinned (.plain (OpenSpec.upto styleReadsSpec)) styleReadsUptoCard

/-- THE SECOND FORM's CARD OF 'regletlaw09.StyleOrder'. -/
def styleOrderUptoCard : Claim7 := { stood := { row := styleOrderUptoRow, standIns := [], harness := (true, "324a04b2551ad30c4902d8b9c53997955a82c4c034c138bacb27c8fcd704fdb0"), looks := false }, kinds := [], alts := [], laidByText := true, laidKinds := [.data, .pinned], laidTests := true, laidLooks := .later }
def StyleOrderUptoCardSaid : Prop := Claim7.holds Tryd.pinned (.plain (OpenSpec.upto styleOrderSpec)) styleOrderUptoCard

/-- THE SECOND FORM's CARD OF 'regletlaw22.TreeNear'. -/
def treeNearUptoCard : Claim7 := { stood := { row := treeNearUptoRow, standIns := [], harness := (true, "324a04b2551ad30c4902d8b9c53997955a82c4c034c138bacb27c8fcd704fdb0"), looks := false }, kinds := [], alts := [], laidByText := true, laidKinds := [.data, .pinned], laidTests := true, laidLooks := .later }
def TreeNearUptoCardSaid : Prop := Claim7.holds Tryd.pinned (.plain (OpenSpec.upto treeNearSpec)) treeNearUptoCard

/-- THE SECOND FORM's CARD OF 'regletlaw22.TreeUnder'. -/
def treeUnderUptoCard : Claim7 := { stood := { row := treeUnderUptoRow, standIns := [], harness := (true, "324a04b2551ad30c4902d8b9c53997955a82c4c034c138bacb27c8fcd704fdb0"), looks := false }, kinds := [], alts := [], laidByText := true, laidKinds := [.data, .pinned], laidTests := true, laidLooks := .later }
def TreeUnderUptoCardSaid : Prop := Claim7.holds Tryd.pinned (.plain (OpenSpec.upto treeUnderSpec)) treeUnderUptoCard

/-- THE SECOND FORM's CARD OF 'regletlaw22.TreeHolds'. -/
def treeHoldsUptoCard : Claim7 := { stood := { row := treeHoldsUptoRow, standIns := [], harness := (true, "324a04b2551ad30c4902d8b9c53997955a82c4c034c138bacb27c8fcd704fdb0"), looks := false }, kinds := [], alts := [], laidByText := true, laidKinds := [.data, .pinned], laidTests := true, laidLooks := .later }
def TreeHoldsUptoCardSaid : Prop := Claim7.holds Tryd.pinned (.plain (OpenSpec.upto treeHoldsSpec)) treeHoldsUptoCard

/-- THE SECOND FORM's CARD OF 'regletlaw09.StyleNames'. -/
def styleNamesUptoCard : Claim7 := { stood := { row := styleNamesUptoRow, standIns := [], harness := (true, "324a04b2551ad30c4902d8b9c53997955a82c4c034c138bacb27c8fcd704fdb0"), looks := false }, kinds := [], alts := [], laidByText := true, laidKinds := [.data, .data, .data, .data, .pinned], laidTests := true, laidLooks := .later }
def StyleNamesUptoCardSaid : Prop := Claim7.holds Tryd.pinned (.plain (OpenSpec.upto styleNamesSpec)) styleNamesUptoCard

/-- THE SECOND FORM's CARD OF 'regletlaw09.StyleBack'. -/
def styleBackUptoCard : Claim7 := { stood := { row := styleBackUptoRow, standIns := [], harness := (true, "324a04b2551ad30c4902d8b9c53997955a82c4c034c138bacb27c8fcd704fdb0"), looks := false }, kinds := [], alts := [], laidByText := true, laidKinds := [.data, .data, .data, .data, .pinned], laidTests := true, laidLooks := .later }
def StyleBackUptoCardSaid : Prop := Claim7.holds Tryd.pinned (.plain (OpenSpec.upto styleBackSpec)) styleBackUptoCard

/-- THE SECOND FORM's CARD OF 'regletlaw22.TreeTells'. -/
def treeTellsUptoCard : Claim7 := { stood := { row := treeTellsUptoRow, standIns := [], harness := (true, "324a04b2551ad30c4902d8b9c53997955a82c4c034c138bacb27c8fcd704fdb0"), looks := false }, kinds := [], alts := [], laidByText := true, laidKinds := [.data, .pinned], laidTests := true, laidLooks := .later }
def TreeTellsUptoCardSaid : Prop := Claim7.holds Tryd.pinned (.plain (OpenSpec.upto treeTellsSpec)) treeTellsUptoCard

/-- THE SECOND FORM's CARD OF 'regletlaw22.TreeNames'. -/
def treeNamesUptoCard : Claim7 := { stood := { row := treeNamesUptoRow, standIns := [], harness := (true, "324a04b2551ad30c4902d8b9c53997955a82c4c034c138bacb27c8fcd704fdb0"), looks := false }, kinds := [], alts := [], laidByText := true, laidKinds := [.data, .pinned], laidTests := true, laidLooks := .later }
def TreeNamesUptoCardSaid : Prop := Claim7.holds Tryd.pinned (.plain (OpenSpec.upto treeNamesSpec)) treeNamesUptoCard
end Rows
end Go.Proofs.YtliabgcpciekpaaDoor
