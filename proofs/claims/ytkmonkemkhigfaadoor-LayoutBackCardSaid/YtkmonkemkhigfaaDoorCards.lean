/-
  DERIVED. GIVEN WITH THE SEED: THE CARDS: each row of YtkmonkemkhigfaaDoorRows.lean that lists a variable, with what it lists TIED to the program's text (the seventh form; the later family's looks); each row that meets fmt, with fmt's text TOLD by the authors' own Lean function (tested against real Go, not proved from fmt's source: count such statements apart). THE CARD IS WHAT COUNTS. Prove the row's statement (the work); the ties are given (YtkmonkemkhigfaaDoorTie.lean); close each card by the builder's one call (the guide's Derived/Test/ToyasCard.lean, 'card_holds'). Laid BY PROGRAM, IN A SANDBOX (cutbox-door.mjs). By AI agents, Wed Nov 11 2026. No macro, syntax, notation, axiom, sorry.
-/
import Derived.Test.YtkmonkemkhigfaaDoorRows
import GoSem.ClaimSeven
namespace Go.Proofs.YtkmonkemkhigfaaDoor
namespace Rows

/-- THE TIED CARD OF 'selvedgelaw09.LayoutSupers'. -/
def layoutSupersCard : Claim7 := { stood := { row := layoutSupersRow, standIns := [], harness := (true, "f89d706145530eca1f33cf92b4fbf17c73f113473cf41dd731b7b7fb1bb31ed7"), looks := false }, kinds := [], alts := [], laidByText := true, laidKinds := [.data, .pinned], laidTests := true, laidLooks := .later }
def LayoutSupersCardSaid : Prop := Claim7.holds Tryd.pinned (.plain (OpenSpec.ofChange layoutSupersSpec)) layoutSupersCard

/-- THE TIED CARD OF 'selvedgelaw09.LayoutNames'. -/
def layoutNamesCard : Claim7 := { stood := { row := layoutNamesRow, standIns := [], harness := (true, "f89d706145530eca1f33cf92b4fbf17c73f113473cf41dd731b7b7fb1bb31ed7"), looks := false }, kinds := [], alts := [], laidByText := true, laidKinds := [.data, .pinned], laidTests := true, laidLooks := .later }
def LayoutNamesCardSaid : Prop := Claim7.holds Tryd.pinned (.plain (OpenSpec.ofChange layoutNamesSpec)) layoutNamesCard

/-- THE TIED CARD OF 'selvedgelaw09.LayoutEntries'. -/
def layoutEntriesCard : Claim7 := { stood := { row := layoutEntriesRow, standIns := [], harness := (true, "f89d706145530eca1f33cf92b4fbf17c73f113473cf41dd731b7b7fb1bb31ed7"), looks := false }, kinds := [], alts := [], laidByText := true, laidKinds := [.data, .pinned], laidTests := true, laidLooks := .later }
def LayoutEntriesCardSaid : Prop := Claim7.holds Tryd.pinned (.plain (OpenSpec.ofChange layoutEntriesSpec)) layoutEntriesCard

/-- THE TIED CARD OF 'selvedgelaw09.LayoutPlaces'. -/
def layoutPlacesCard : Claim7 := { stood := { row := layoutPlacesRow, standIns := [], harness := (true, "f89d706145530eca1f33cf92b4fbf17c73f113473cf41dd731b7b7fb1bb31ed7"), looks := false }, kinds := [], alts := [], laidByText := true, laidKinds := [.data, .pinned], laidTests := true, laidLooks := .later }
def LayoutPlacesCardSaid : Prop := Claim7.holds Tryd.pinned (.plain (OpenSpec.ofChange layoutPlacesSpec)) layoutPlacesCard

/-- THE TIED CARD OF 'selvedgelaw09.LayoutSame'. -/
def layoutSameCard : Claim7 := { stood := { row := layoutSameRow, standIns := [], harness := (true, "f89d706145530eca1f33cf92b4fbf17c73f113473cf41dd731b7b7fb1bb31ed7"), looks := false }, kinds := [], alts := [], laidByText := true, laidKinds := [.data, .pinned], laidTests := true, laidLooks := .later }
def LayoutSameCardSaid : Prop := Claim7.holds Tryd.pinned (.plain (OpenSpec.ofChange layoutSameSpec)) layoutSameCard

/-- THE TIED CARD OF 'selvedgelaw09.LayoutInodes'. -/
def layoutInodesCard : Claim7 := { stood := { row := layoutInodesRow, standIns := [], harness := (true, "f89d706145530eca1f33cf92b4fbf17c73f113473cf41dd731b7b7fb1bb31ed7"), looks := false }, kinds := [], alts := [], laidByText := true, laidKinds := [.data, .pinned], laidTests := true, laidLooks := .later }
def LayoutInodesCardSaid : Prop := Claim7.holds Tryd.pinned (.plain (OpenSpec.ofChange layoutInodesSpec)) layoutInodesCard

/-- THE TIED CARD OF 'selvedgelaw09.LayoutBack'. -/
def layoutBackCard : Claim7 := { stood := { row := layoutBackRow, standIns := [], harness := (true, "f89d706145530eca1f33cf92b4fbf17c73f113473cf41dd731b7b7fb1bb31ed7"), looks := false }, kinds := [], alts := [], laidByText := true, laidKinds := [.data, .pinned], laidTests := true, laidLooks := .later }
def LayoutBackCardSaid : Prop := Claim7.holds Tryd.pinned (.plain (OpenSpec.ofChange layoutBackSpec)) layoutBackCard

/-- THE TIED CARD OF 'selvedgelaw09.LayoutTurned'. -/
def layoutTurnedCard : Claim7 := { stood := { row := layoutTurnedRow, standIns := [], harness := (true, "f89d706145530eca1f33cf92b4fbf17c73f113473cf41dd731b7b7fb1bb31ed7"), looks := false }, kinds := [], alts := [], laidByText := true, laidKinds := [.data, .pinned], laidTests := true, laidLooks := .later }
def LayoutTurnedCardSaid : Prop := Claim7.holds Tryd.pinned (.plain (OpenSpec.ofChange layoutTurnedSpec)) layoutTurnedCard

/-- THE SECOND FORM's CARD OF 'selvedgelaw09.LayoutSupers'. -/
def layoutSupersUptoCard : Claim7 := { stood := { row := layoutSupersUptoRow, standIns := [], harness := (true, "f89d706145530eca1f33cf92b4fbf17c73f113473cf41dd731b7b7fb1bb31ed7"), looks := false }, kinds := [], alts := [], laidByText := true, laidKinds := [.data, .pinned], laidTests := true, laidLooks := .later }
def LayoutSupersUptoCardSaid : Prop := Claim7.holds Tryd.pinned (.plain (OpenSpec.upto layoutSupersSpec)) layoutSupersUptoCard

/-- THE SECOND FORM's CARD OF 'selvedgelaw09.LayoutNames'. -/
def layoutNamesUptoCard : Claim7 := { stood := { row := layoutNamesUptoRow, standIns := [], harness := (true, "f89d706145530eca1f33cf92b4fbf17c73f113473cf41dd731b7b7fb1bb31ed7"), looks := false }, kinds := [], alts := [], laidByText := true, laidKinds := [.data, .pinned], laidTests := true, laidLooks := .later }
def LayoutNamesUptoCardSaid : Prop := Claim7.holds Tryd.pinned (.plain (OpenSpec.upto layoutNamesSpec)) layoutNamesUptoCard

/-- THE SECOND FORM's CARD OF 'selvedgelaw09.LayoutEntries'. -/
def layoutEntriesUptoCard : Claim7 := { stood := { row := layoutEntriesUptoRow, standIns := [], harness := (true, "f89d706145530eca1f33cf92b4fbf17c73f113473cf41dd731b7b7fb1bb31ed7"), looks := false }, kinds := [], alts := [], laidByText := true, laidKinds := [.data, .pinned], laidTests := true, laidLooks := .later }
def LayoutEntriesUptoCardSaid : Prop := Claim7.holds Tryd.pinned (.plain (OpenSpec.upto layoutEntriesSpec)) layoutEntriesUptoCard

/-- THE SECOND FORM's CARD OF 'selvedgelaw09.LayoutPlaces'. -/
def layoutPlacesUptoCard : Claim7 := { stood := { row := layoutPlacesUptoRow, standIns := [], harness := (true, "f89d706145530eca1f33cf92b4fbf17c73f113473cf41dd731b7b7fb1bb31ed7"), looks := false }, kinds := [], alts := [], laidByText := true, laidKinds := [.data, .pinned], laidTests := true, laidLooks := .later }
def LayoutPlacesUptoCardSaid : Prop := Claim7.holds Tryd.pinned (.plain (OpenSpec.upto layoutPlacesSpec)) layoutPlacesUptoCard

/-- THE SECOND FORM's CARD OF 'selvedgelaw09.LayoutSame'. -/
def layoutSameUptoCard : Claim7 := { stood := { row := layoutSameUptoRow, standIns := [], harness := (true, "f89d706145530eca1f33cf92b4fbf17c73f113473cf41dd731b7b7fb1bb31ed7"), looks := false }, kinds := [], alts := [], laidByText := true, laidKinds := [.data, .pinned], laidTests := true, laidLooks := .later }
def LayoutSameUptoCardSaid : Prop := Claim7.holds Tryd.pinned (.plain (OpenSpec.upto layoutSameSpec)) layoutSameUptoCard

/-- THE SECOND FORM's CARD OF 'selvedgelaw09.LayoutInodes'. -/
def layoutInodesUptoCard : Claim7 := { stood := { row := layoutInodesUptoRow, standIns := [], harness := (true, "f89d706145530eca1f33cf92b4fbf17c73f113473cf41dd731b7b7fb1bb31ed7"), looks := false }, kinds := [], alts := [], laidByText := true, laidKinds := [.data, .pinned], laidTests := true, laidLooks := .later }
def LayoutInodesUptoCardSaid : Prop := Claim7.holds Tryd.pinned (.plain (OpenSpec.upto layoutInodesSpec)) layoutInodesUptoCard

/-- THE SECOND FORM's CARD OF 'selvedgelaw09.LayoutBack'. -/
def layoutBackUptoCard : Claim7 := { stood := { row := layoutBackUptoRow, standIns := [], harness := (true, "f89d706145530eca1f33cf92b4fbf17c73f113473cf41dd731b7b7fb1bb31ed7"), looks := false }, kinds := [], alts := [], laidByText := true, laidKinds := [.data, .pinned], laidTests := true, laidLooks := .later }
def LayoutBackUptoCardSaid : Prop := Claim7.holds Tryd.pinned (.plain (OpenSpec.upto layoutBackSpec)) layoutBackUptoCard

/-- THE SECOND FORM's CARD OF 'selvedgelaw09.LayoutTurned'. -/
def layoutTurnedUptoCard : Claim7 := { stood := { row := layoutTurnedUptoRow, standIns := [], harness := (true, "f89d706145530eca1f33cf92b4fbf17c73f113473cf41dd731b7b7fb1bb31ed7"), looks := false }, kinds := [], alts := [], laidByText := true, laidKinds := [.data, .pinned], laidTests := true, laidLooks := .later }
def LayoutTurnedUptoCardSaid : Prop := Claim7.holds Tryd.pinned (.plain (OpenSpec.upto layoutTurnedSpec)) layoutTurnedUptoCard
end Rows
end Go.Proofs.YtkmonkemkhigfaaDoor
