/-
  DERIVED. GIVEN WITH THE SEED: THE CARDS: each row of YtmdganpealbmpaaGreatDoorRows.lean that lists a variable, with what it lists TIED to the program's text (the seventh form; the later family's looks); each row that meets fmt, with fmt's text TOLD by the authors' own Lean function (tested against real Go, not proved from fmt's source: count such statements apart). THE CARD IS WHAT COUNTS. Prove the row's statement (the work); the ties are given (YtmdganpealbmpaaGreatDoorTie.lean); close each card by the builder's one call (the guide's Derived/Test/ToyasCard.lean, 'card_holds'). Laid BY PROGRAM, IN A SANDBOX (cutbox-door.mjs). By AI agents, Wed Nov 11 2026. No macro, syntax, notation, axiom, sorry.
-/
import Derived.Test.YtmdganpealbmpaaGreatDoorRows
import GoSem.ClaimSeven
namespace Go.Proofs.YtmdganpealbmpaaGreatDoor
namespace Rows

/-- THE TIED CARD OF 'concordlaw13.RefOrder'. -/
def refOrderCard : Claim7 := { stood := { row := refOrderRow, standIns := [], harness := (true, "6f1bafc446b33b31eb62dd22cdb6ae1e14968ea66519b0993940ce66f4e5bdd4"), looks := true }, kinds := [], alts := [], laidByText := true, laidKinds := [.handle], laidTests := true, laidLooks := .later }
def RefOrderCardSaid : Prop := Claim7.holds Tryz.pinned (.plain (OpenSpec.ofChange refOrderSpec)) refOrderCard

/-- THE TIED CARD OF 'concordlaw13.RefView'. -/
def refViewCard : Claim7 := { stood := { row := refViewRow, standIns := [], harness := (true, "6f1bafc446b33b31eb62dd22cdb6ae1e14968ea66519b0993940ce66f4e5bdd4"), looks := true }, kinds := [], alts := [], laidByText := true, laidKinds := [.handle], laidTests := true, laidLooks := .later }
def RefViewCardSaid : Prop := Claim7.holds Tryz.pinned (.plain (OpenSpec.ofChange refViewSpec)) refViewCard

/-- THE TIED CARD OF 'concordlaw18.CountRaces'. -/
def countRacesCard : Claim7 := { stood := { row := countRacesRow, standIns := [], harness := (true, "6f1bafc446b33b31eb62dd22cdb6ae1e14968ea66519b0993940ce66f4e5bdd4"), looks := true }, kinds := [], alts := [], laidByText := true, laidKinds := [.handle], laidTests := true, laidLooks := .later }
def CountRacesCardSaid : Prop := Claim7.holds Tryz.pinned (.plain (OpenSpec.ofChange countRacesSpec)) countRacesCard

/-- THE TIED CARD OF 'concordlaw18.CountApart'. -/
def countApartCard : Claim7 := { stood := { row := countApartRow, standIns := [], harness := (true, "6f1bafc446b33b31eb62dd22cdb6ae1e14968ea66519b0993940ce66f4e5bdd4"), looks := true }, kinds := [], alts := [], laidByText := true, laidKinds := [.handle], laidTests := true, laidLooks := .later }
def CountApartCardSaid : Prop := Claim7.holds Tryz.pinned (.plain (OpenSpec.ofChange countApartSpec)) countApartCard

/-- THE SECOND FORM's CARD OF 'concordlaw13.RefOrder'. -/
def refOrderUptoCard : Claim7 := { stood := { row := refOrderUptoRow, standIns := [], harness := (true, "6f1bafc446b33b31eb62dd22cdb6ae1e14968ea66519b0993940ce66f4e5bdd4"), looks := true }, kinds := [], alts := [], laidByText := true, laidKinds := [.handle], laidTests := true, laidLooks := .later }
def RefOrderUptoCardSaid : Prop := Claim7.holds Tryz.pinned (.plain (OpenSpec.upto refOrderSpec)) refOrderUptoCard

/-- THE SECOND FORM's CARD OF 'concordlaw13.RefView'. -/
def refViewUptoCard : Claim7 := { stood := { row := refViewUptoRow, standIns := [], harness := (true, "6f1bafc446b33b31eb62dd22cdb6ae1e14968ea66519b0993940ce66f4e5bdd4"), looks := true }, kinds := [], alts := [], laidByText := true, laidKinds := [.handle], laidTests := true, laidLooks := .later }
def RefViewUptoCardSaid : Prop := Claim7.holds Tryz.pinned (.plain (OpenSpec.upto refViewSpec)) refViewUptoCard

/-- THE SECOND FORM's CARD OF 'concordlaw18.CountRaces'. -/
def countRacesUptoCard : Claim7 := { stood := { row := countRacesUptoRow, standIns := [], harness := (true, "6f1bafc446b33b31eb62dd22cdb6ae1e14968ea66519b0993940ce66f4e5bdd4"), looks := true }, kinds := [], alts := [], laidByText := true, laidKinds := [.handle], laidTests := true, laidLooks := .later }
def CountRacesUptoCardSaid : Prop := Claim7.holds Tryz.pinned (.plain (OpenSpec.upto countRacesSpec)) countRacesUptoCard

/-- THE SECOND FORM's CARD OF 'concordlaw18.CountApart'. -/
def countApartUptoCard : Claim7 := { stood := { row := countApartUptoRow, standIns := [], harness := (true, "6f1bafc446b33b31eb62dd22cdb6ae1e14968ea66519b0993940ce66f4e5bdd4"), looks := true }, kinds := [], alts := [], laidByText := true, laidKinds := [.handle], laidTests := true, laidLooks := .later }
def CountApartUptoCardSaid : Prop := Claim7.holds Tryz.pinned (.plain (OpenSpec.upto countApartSpec)) countApartUptoCard
end Rows
end Go.Proofs.YtmdganpealbmpaaGreatDoor
