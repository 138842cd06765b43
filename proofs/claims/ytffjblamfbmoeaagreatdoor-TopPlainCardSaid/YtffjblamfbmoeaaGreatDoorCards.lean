/-
  DERIVED. GIVEN WITH THE SEED: THE CARDS: each row of YtffjblamfbmoeaaGreatDoorRows.lean that lists a variable, with what it lists TIED to the program's text (the seventh form; the later family's looks); each row that meets fmt, with fmt's text TOLD by the authors' own Lean function (tested against real Go, not proved from fmt's source: count such statements apart). THE CARD IS WHAT COUNTS. Prove the row's statement (the work); the ties are given (YtffjblamfbmoeaaGreatDoorTie.lean); close each card by the builder's one call (the guide's Derived/Test/ToyasCard.lean, 'card_holds'). Laid BY PROGRAM, IN A SANDBOX (cutbox-door.mjs). By AI agents, Wed Nov 11 2026. No macro, syntax, notation, axiom, sorry.
-/
import Derived.Test.YtffjblamfbmoeaaGreatDoorRows
import GoSem.ClaimSeven
namespace Go.Proofs.YtffjblamfbmoeaaGreatDoor
namespace Rows

/-- THE TIED CARD OF 'reglettop.TopDefined'. -/
def topDefinedCard : Claim7 := { stood := { row := topDefinedRow, standIns := [], harness := (true, "91c24670a59f1786e3acf74f41e2f9de70e5101d36c5a8a900d566c43152ce16"), looks := false }, kinds := [], alts := [], laidByText := true, laidKinds := [.data], laidTests := true, laidLooks := .later }
def TopDefinedCardSaid : Prop := Claim7.holds Tryz.pinned (.plain (OpenSpec.ofChange topDefinedSpec)) topDefinedCard

/-- THE TIED CARD OF 'reglettop.TopPlain'. -/
def topPlainCard : Claim7 := { stood := { row := topPlainRow, standIns := [], harness := (true, "91c24670a59f1786e3acf74f41e2f9de70e5101d36c5a8a900d566c43152ce16"), looks := false }, kinds := [], alts := [], laidByText := true, laidKinds := [.data], laidTests := true, laidLooks := .later }
def TopPlainCardSaid : Prop := Claim7.holds Tryz.pinned (.plain (OpenSpec.ofChange topPlainSpec)) topPlainCard

/-- THE TIED CARD OF 'reglettop.TopSpelt'. -/
def topSpeltCard : Claim7 := { stood := { row := topSpeltRow, standIns := [], harness := (true, "91c24670a59f1786e3acf74f41e2f9de70e5101d36c5a8a900d566c43152ce16"), looks := false }, kinds := [], alts := [], laidByText := true, laidKinds := [.data], laidTests := true, laidLooks := .later }
def TopSpeltCardSaid : Prop := Claim7.holds Tryz.pinned (.plain (OpenSpec.ofChange topSpeltSpec)) topSpeltCard

/-- THE SECOND FORM's CARD OF 'reglettop.TopDefined'. -/
def topDefinedUptoCard : Claim7 := { stood := { row := topDefinedUptoRow, standIns := [], harness := (true, "91c24670a59f1786e3acf74f41e2f9de70e5101d36c5a8a900d566c43152ce16"), looks := false }, kinds := [], alts := [], laidByText := true, laidKinds := [.data], laidTests := true, laidLooks := .later }
def TopDefinedUptoCardSaid : Prop := Claim7.holds Tryz.pinned (.plain (OpenSpec.upto topDefinedSpec)) topDefinedUptoCard

/-- THE SECOND FORM's CARD OF 'reglettop.TopPlain'. -/
def topPlainUptoCard : Claim7 := { stood := { row := topPlainUptoRow, standIns := [], harness := (true, "91c24670a59f1786e3acf74f41e2f9de70e5101d36c5a8a900d566c43152ce16"), looks := false }, kinds := [], alts := [], laidByText := true, laidKinds := [.data], laidTests := true, laidLooks := .later }
def TopPlainUptoCardSaid : Prop := Claim7.holds Tryz.pinned (.plain (OpenSpec.upto topPlainSpec)) topPlainUptoCard

/-- THE SECOND FORM's CARD OF 'reglettop.TopSpelt'. -/
def topSpeltUptoCard : Claim7 := { stood := { row := topSpeltUptoRow, standIns := [], harness := (true, "91c24670a59f1786e3acf74f41e2f9de70e5101d36c5a8a900d566c43152ce16"), looks := false }, kinds := [], alts := [], laidByText := true, laidKinds := [.data], laidTests := true, laidLooks := .later }
def TopSpeltUptoCardSaid : Prop := Claim7.holds Tryz.pinned (.plain (OpenSpec.upto topSpeltSpec)) topSpeltUptoCard
end Rows
end Go.Proofs.YtffjblamfbmoeaaGreatDoor
