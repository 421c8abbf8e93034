/-
  DERIVED. GIVEN WITH THE SEED: THE CARDS: each row of YtkpdacfiglpgeaaGreatDoorRows.lean that lists a variable, with what it lists TIED to the program's text (the seventh form; the later family's looks); each row that meets fmt, with fmt's text TOLD by the authors' own Lean function (tested against real Go, not proved from fmt's source: count such statements apart). THE CARD IS WHAT COUNTS. Prove the row's statement (the work); the ties are given (YtkpdacfiglpgeaaGreatDoorTie.lean); close each card by the builder's one call (the guide's Derived/Test/ToyasCard.lean, 'card_holds'). Laid BY PROGRAM, IN A SANDBOX (cutbox-door.mjs). By AI agents, Wed Nov 11 2026. No macro, syntax, notation, axiom, sorry.
-/
import Derived.Test.YtkpdacfiglpgeaaGreatDoorRows
import GoSem.ClaimSeven
namespace Go.Proofs.YtkpdacfiglpgeaaGreatDoor
namespace Rows

/-- THE TIED CARD OF 'concordlaw29.TqueueAlone'. -/
def tqueueAloneCard : Claim7 := { stood := { row := tqueueAloneRow, standIns := [], harness := (true, "b70a381efbe7643fb708d721b00d59a5efd89c465333fb019e6d67cecbef4c39"), looks := true }, kinds := [], alts := [], laidByText := true, laidKinds := [.handle], laidTests := true, laidLooks := .later }
def TqueueAloneCardSaid : Prop := Claim7.holds Tryz.pinned (.plain (OpenSpec.ofChange tqueueAloneSpec)) tqueueAloneCard

/-- THE TIED CARD OF 'concordlaw14.TxnUndone'. -/
def txnUndoneCard : Claim7 := { stood := { row := txnUndoneRow, standIns := [], harness := (true, "b70a381efbe7643fb708d721b00d59a5efd89c465333fb019e6d67cecbef4c39"), looks := true }, kinds := [], alts := [], laidByText := true, laidKinds := [.handle], laidTests := true, laidLooks := .later }
def TxnUndoneCardSaid : Prop := Claim7.holds Tryz.pinned (.plain (OpenSpec.ofChange txnUndoneSpec)) txnUndoneCard

/-- THE TIED CARD OF 'concordlaw14.TxnWaits'. -/
def txnWaitsCard : Claim7 := { stood := { row := txnWaitsRow, standIns := [], harness := (true, "b70a381efbe7643fb708d721b00d59a5efd89c465333fb019e6d67cecbef4c39"), looks := true }, kinds := [], alts := [], laidByText := true, laidKinds := [.handle], laidTests := true, laidLooks := .later }
def TxnWaitsCardSaid : Prop := Claim7.holds Tryz.pinned (.plain (OpenSpec.ofChange txnWaitsSpec)) txnWaitsCard

/-- THE TIED CARD OF 'concordlaw14.TxnAlone'. -/
def txnAloneCard : Claim7 := { stood := { row := txnAloneRow, standIns := [], harness := (true, "b70a381efbe7643fb708d721b00d59a5efd89c465333fb019e6d67cecbef4c39"), looks := true }, kinds := [], alts := [], laidByText := true, laidKinds := [.handle], laidTests := true, laidLooks := .later }
def TxnAloneCardSaid : Prop := Claim7.holds Tryz.pinned (.plain (OpenSpec.ofChange txnAloneSpec)) txnAloneCard

/-- THE SECOND FORM's CARD OF 'concordlaw29.TqueueAlone'. -/
def tqueueAloneUptoCard : Claim7 := { stood := { row := tqueueAloneUptoRow, standIns := [], harness := (true, "b70a381efbe7643fb708d721b00d59a5efd89c465333fb019e6d67cecbef4c39"), looks := true }, kinds := [], alts := [], laidByText := true, laidKinds := [.handle], laidTests := true, laidLooks := .later }
def TqueueAloneUptoCardSaid : Prop := Claim7.holds Tryz.pinned (.plain (OpenSpec.upto tqueueAloneSpec)) tqueueAloneUptoCard

/-- THE SECOND FORM's CARD OF 'concordlaw14.TxnUndone'. -/
def txnUndoneUptoCard : Claim7 := { stood := { row := txnUndoneUptoRow, standIns := [], harness := (true, "b70a381efbe7643fb708d721b00d59a5efd89c465333fb019e6d67cecbef4c39"), looks := true }, kinds := [], alts := [], laidByText := true, laidKinds := [.handle], laidTests := true, laidLooks := .later }
def TxnUndoneUptoCardSaid : Prop := Claim7.holds Tryz.pinned (.plain (OpenSpec.upto txnUndoneSpec)) txnUndoneUptoCard

/-- THE SECOND FORM's CARD OF 'concordlaw14.TxnWaits'. -/
def txnWaitsUptoCard : Claim7 := { stood := { row := txnWaitsUptoRow, standIns := [], harness := (true, "b70a381efbe7643fb708d721b00d59a5efd89c465333fb019e6d67cecbef4c39"), looks := true }, kinds := [], alts := [], laidByText := true, laidKinds := [.handle], laidTests := true, laidLooks := .later }
def TxnWaitsUptoCardSaid : Prop := Claim7.holds Tryz.pinned (.plain (OpenSpec.upto txnWaitsSpec)) txnWaitsUptoCard

/-- THE SECOND FORM's CARD OF 'concordlaw14.TxnAlone'. -/
def txnAloneUptoCard : Claim7 := { stood := { row := txnAloneUptoRow, standIns := [], harness := (true, "b70a381efbe7643fb708d721b00d59a5efd89c465333fb019e6d67cecbef4c39"), looks := true }, kinds := [], alts := [], laidByText := true, laidKinds := [.handle], laidTests := true, laidLooks := .later }
def TxnAloneUptoCardSaid : Prop := Claim7.holds Tryz.pinned (.plain (OpenSpec.upto txnAloneSpec)) txnAloneUptoCard
end Rows
end Go.Proofs.YtkpdacfiglpgeaaGreatDoor
