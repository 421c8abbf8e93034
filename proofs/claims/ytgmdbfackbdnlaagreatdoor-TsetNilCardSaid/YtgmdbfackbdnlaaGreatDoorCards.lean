/-
  DERIVED. GIVEN WITH THE SEED: THE CARDS: each row of YtgmdbfackbdnlaaGreatDoorRows.lean that lists a variable, with what it lists TIED to the program's text (the seventh form; the later family's looks); each row that meets fmt, with fmt's text TOLD by the authors' own Lean function (tested against real Go, not proved from fmt's source: count such statements apart). THE CARD IS WHAT COUNTS. Prove the row's statement (the work); the ties are given (YtgmdbfackbdnlaaGreatDoorTie.lean); close each card by the builder's one call (the guide's Derived/Test/ToyasCard.lean, 'card_holds'). Laid BY PROGRAM, IN A SANDBOX (cutbox-door.mjs). By AI agents, Wed Nov 11 2026. No macro, syntax, notation, axiom, sorry.
-/
import Derived.Test.YtgmdbfackbdnlaaGreatDoorRows
import GoSem.ClaimSeven
namespace Go.Proofs.YtgmdbfackbdnlaaGreatDoor
namespace Rows

/-- THE TIED CARD OF 'concordlaw19.TmapNil'. -/
def tmapNilCard : Claim7 := { stood := { row := tmapNilRow, standIns := [], harness := (true, "1868b1317172224829d4e60bbf407c1aa05c3a6322fd15b466d838b4e1859a8c"), looks := true }, kinds := [], alts := [], laidByText := true, laidKinds := [.handle], laidTests := true, laidLooks := .later }
def TmapNilCardSaid : Prop := Claim7.holds Tryz.pinned (.plain (OpenSpec.ofChange tmapNilSpec)) tmapNilCard

/-- THE TIED CARD OF 'concordlaw20.TsetNil'. -/
def tsetNilCard : Claim7 := { stood := { row := tsetNilRow, standIns := [], harness := (true, "1868b1317172224829d4e60bbf407c1aa05c3a6322fd15b466d838b4e1859a8c"), looks := true }, kinds := [], alts := [], laidByText := true, laidKinds := [.handle], laidTests := true, laidLooks := .later }
def TsetNilCardSaid : Prop := Claim7.holds Tryz.pinned (.plain (OpenSpec.ofChange tsetNilSpec)) tsetNilCard

/-- THE TIED CARD OF 'concordlaw21.SkipNil'. -/
def skipNilCard : Claim7 := { stood := { row := skipNilRow, standIns := [], harness := (true, "1868b1317172224829d4e60bbf407c1aa05c3a6322fd15b466d838b4e1859a8c"), looks := true }, kinds := [], alts := [], laidByText := true, laidKinds := [.data, .handle], laidTests := true, laidLooks := .later }
def SkipNilCardSaid : Prop := Claim7.holds Tryz.pinned (.plain (OpenSpec.ofChange skipNilSpec)) skipNilCard

/-- THE TIED CARD OF 'concordlaw22.InterpNil'. -/
def interpNilCard : Claim7 := { stood := { row := interpNilRow, standIns := [], harness := (true, "1868b1317172224829d4e60bbf407c1aa05c3a6322fd15b466d838b4e1859a8c"), looks := true }, kinds := [], alts := [], laidByText := true, laidKinds := [.handle], laidTests := true, laidLooks := .later }
def InterpNilCardSaid : Prop := Claim7.holds Tryz.pinned (.plain (OpenSpec.ofChange interpNilSpec)) interpNilCard

/-- THE TIED CARD OF 'concordlaw23.CollectNil'. -/
def collectNilCard : Claim7 := { stood := { row := collectNilRow, standIns := [], harness := (true, "1868b1317172224829d4e60bbf407c1aa05c3a6322fd15b466d838b4e1859a8c"), looks := true }, kinds := [], alts := [], laidByText := true, laidKinds := [.handle], laidTests := true, laidLooks := .later }
def CollectNilCardSaid : Prop := Claim7.holds Tryz.pinned (.plain (OpenSpec.ofChange collectNilSpec)) collectNilCard

/-- THE SECOND FORM's CARD OF 'concordlaw19.TmapNil'. -/
def tmapNilUptoCard : Claim7 := { stood := { row := tmapNilUptoRow, standIns := [], harness := (true, "1868b1317172224829d4e60bbf407c1aa05c3a6322fd15b466d838b4e1859a8c"), looks := true }, kinds := [], alts := [], laidByText := true, laidKinds := [.handle], laidTests := true, laidLooks := .later }
def TmapNilUptoCardSaid : Prop := Claim7.holds Tryz.pinned (.plain (OpenSpec.upto tmapNilSpec)) tmapNilUptoCard

/-- THE SECOND FORM's CARD OF 'concordlaw20.TsetNil'. -/
def tsetNilUptoCard : Claim7 := { stood := { row := tsetNilUptoRow, standIns := [], harness := (true, "1868b1317172224829d4e60bbf407c1aa05c3a6322fd15b466d838b4e1859a8c"), looks := true }, kinds := [], alts := [], laidByText := true, laidKinds := [.handle], laidTests := true, laidLooks := .later }
def TsetNilUptoCardSaid : Prop := Claim7.holds Tryz.pinned (.plain (OpenSpec.upto tsetNilSpec)) tsetNilUptoCard

/-- THE SECOND FORM's CARD OF 'concordlaw21.SkipNil'. -/
def skipNilUptoCard : Claim7 := { stood := { row := skipNilUptoRow, standIns := [], harness := (true, "1868b1317172224829d4e60bbf407c1aa05c3a6322fd15b466d838b4e1859a8c"), looks := true }, kinds := [], alts := [], laidByText := true, laidKinds := [.data, .handle], laidTests := true, laidLooks := .later }
def SkipNilUptoCardSaid : Prop := Claim7.holds Tryz.pinned (.plain (OpenSpec.upto skipNilSpec)) skipNilUptoCard

/-- THE SECOND FORM's CARD OF 'concordlaw22.InterpNil'. -/
def interpNilUptoCard : Claim7 := { stood := { row := interpNilUptoRow, standIns := [], harness := (true, "1868b1317172224829d4e60bbf407c1aa05c3a6322fd15b466d838b4e1859a8c"), looks := true }, kinds := [], alts := [], laidByText := true, laidKinds := [.handle], laidTests := true, laidLooks := .later }
def InterpNilUptoCardSaid : Prop := Claim7.holds Tryz.pinned (.plain (OpenSpec.upto interpNilSpec)) interpNilUptoCard

/-- THE SECOND FORM's CARD OF 'concordlaw23.CollectNil'. -/
def collectNilUptoCard : Claim7 := { stood := { row := collectNilUptoRow, standIns := [], harness := (true, "1868b1317172224829d4e60bbf407c1aa05c3a6322fd15b466d838b4e1859a8c"), looks := true }, kinds := [], alts := [], laidByText := true, laidKinds := [.handle], laidTests := true, laidLooks := .later }
def CollectNilUptoCardSaid : Prop := Claim7.holds Tryz.pinned (.plain (OpenSpec.upto collectNilSpec)) collectNilUptoCard
end Rows
end Go.Proofs.YtgmdbfackbdnlaaGreatDoor
