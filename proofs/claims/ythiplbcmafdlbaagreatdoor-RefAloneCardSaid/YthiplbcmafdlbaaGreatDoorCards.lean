/-
  DERIVED. GIVEN WITH THE SEED: THE CARDS: each row of YthiplbcmafdlbaaGreatDoorRows.lean that lists a variable, with what it lists TIED to the program's text (the seventh form; the later family's looks); each row that meets fmt, with fmt's text TOLD by the authors' own Lean function (tested against real Go, not proved from fmt's source: count such statements apart). THE CARD IS WHAT COUNTS. Prove the row's statement (the work); the ties are given (YthiplbcmafdlbaaGreatDoorTie.lean); close each card by the builder's one call (the guide's Derived/Test/ToyasCard.lean, 'card_holds'). Laid BY PROGRAM, IN A SANDBOX (cutbox-door.mjs). By AI agents, Wed Nov 11 2026. No macro, syntax, notation, axiom, sorry.
-/
import Derived.Test.YthiplbcmafdlbaaGreatDoorRows
import GoSem.ClaimSeven
namespace Go.Proofs.YthiplbcmafdlbaaGreatDoor
namespace Rows

/-- THE TIED CARD OF 'concordlaw13.RefNothing'. -/
def refNothingCard : Claim7 := { stood := { row := refNothingRow, standIns := [], harness := (true, "91dd741deaa4cc5570686f4baf3bde4458581f6d53a1028ee5d9ad7efada89cd"), looks := true }, kinds := [], alts := [], laidByText := true, laidKinds := [.handle], laidTests := true, laidLooks := .later }
def RefNothingCardSaid : Prop := Claim7.holds Tryz.pinned (.plain (OpenSpec.ofChange refNothingSpec)) refNothingCard

/-- THE TIED CARD OF 'concordlaw13.RefAlone'. -/
def refAloneCard : Claim7 := { stood := { row := refAloneRow, standIns := [], harness := (true, "91dd741deaa4cc5570686f4baf3bde4458581f6d53a1028ee5d9ad7efada89cd"), looks := true }, kinds := [], alts := [], laidByText := true, laidKinds := [.handle], laidTests := true, laidLooks := .later }
def RefAloneCardSaid : Prop := Claim7.holds Tryz.pinned (.plain (OpenSpec.ofChange refAloneSpec)) refAloneCard

/-- THE SECOND FORM's CARD OF 'concordlaw13.RefNothing'. -/
def refNothingUptoCard : Claim7 := { stood := { row := refNothingUptoRow, standIns := [], harness := (true, "91dd741deaa4cc5570686f4baf3bde4458581f6d53a1028ee5d9ad7efada89cd"), looks := true }, kinds := [], alts := [], laidByText := true, laidKinds := [.handle], laidTests := true, laidLooks := .later }
def RefNothingUptoCardSaid : Prop := Claim7.holds Tryz.pinned (.plain (OpenSpec.upto refNothingSpec)) refNothingUptoCard

/-- THE SECOND FORM's CARD OF 'concordlaw13.RefAlone'. -/
def refAloneUptoCard : Claim7 := { stood := { row := refAloneUptoRow, standIns := [], harness := (true, "91dd741deaa4cc5570686f4baf3bde4458581f6d53a1028ee5d9ad7efada89cd"), looks := true }, kinds := [], alts := [], laidByText := true, laidKinds := [.handle], laidTests := true, laidLooks := .later }
def RefAloneUptoCardSaid : Prop := Claim7.holds Tryz.pinned (.plain (OpenSpec.upto refAloneSpec)) refAloneUptoCard
end Rows
end Go.Proofs.YthiplbcmafdlbaaGreatDoor
