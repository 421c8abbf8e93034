/-
  DERIVED. GIVEN WITH THE SEED: THE CARDS: each row of YtfehonejcambgaaDoorRows.lean that lists a variable, with what it lists TIED to the program's text (the seventh form; the later family's looks); each row that meets fmt, with fmt's text TOLD by the authors' own Lean function (tested against real Go, not proved from fmt's source: count such statements apart). THE CARD IS WHAT COUNTS. Prove the row's statement (the work); the ties are given (YtfehonejcambgaaDoorTie.lean); close each card by the builder's one call (the guide's Derived/Test/ToyasCard.lean, 'card_holds'). Laid BY PROGRAM, IN A SANDBOX (cutbox-door.mjs). By AI agents, Wed Nov 11 2026. No macro, syntax, notation, axiom, sorry.
-/
import Derived.Test.YtfehonejcambgaaDoorRows
import GoSem.ClaimSeven
namespace Go.Proofs.YtfehonejcambgaaDoor
namespace Rows

/-- THE TIED CARD OF 'concordlaw05.ThreadNil'. -/
def threadNilCard : Claim7 := { stood := { row := threadNilRow, standIns := [], harness := (true, "6c088e7555b6b7e97f62a943049aae22b8399449767ee3daa421726ff909d696"), looks := true }, kinds := [], alts := [], laidByText := true, laidKinds := [.handle], laidTests := true, laidLooks := .later }
def ThreadNilCardSaid : Prop := Claim7.holds Tryd.pinned (.plain (OpenSpec.ofChange threadNilSpec)) threadNilCard

/-- THE TIED CARD OF 'concordlaw02.BlocksRoom'. -/
def blocksRoomCard : Claim7 := { stood := { row := blocksRoomRow, standIns := [], harness := (true, "6c088e7555b6b7e97f62a943049aae22b8399449767ee3daa421726ff909d696"), looks := true }, kinds := [], alts := [], laidByText := true, laidKinds := [.handle], laidTests := true, laidLooks := .later }
def BlocksRoomCardSaid : Prop := Claim7.holds Tryd.pinned (.plain (OpenSpec.ofChange blocksRoomSpec)) blocksRoomCard

/-- THE TIED CARD OF 'concordlaw02.BlocksApart'. -/
def blocksApartCard : Claim7 := { stood := { row := blocksApartRow, standIns := [], harness := (true, "6c088e7555b6b7e97f62a943049aae22b8399449767ee3daa421726ff909d696"), looks := true }, kinds := [], alts := [], laidByText := true, laidKinds := [.handle], laidTests := true, laidLooks := .later }
def BlocksApartCardSaid : Prop := Claim7.holds Tryd.pinned (.plain (OpenSpec.ofChange blocksApartSpec)) blocksApartCard

/-- THE TIED CARD OF 'concordlaw02.BlocksStale'. -/
def blocksStaleCard : Claim7 := { stood := { row := blocksStaleRow, standIns := [], harness := (true, "6c088e7555b6b7e97f62a943049aae22b8399449767ee3daa421726ff909d696"), looks := true }, kinds := [], alts := [], laidByText := true, laidKinds := [.handle], laidTests := true, laidLooks := .later }
def BlocksStaleCardSaid : Prop := Claim7.holds Tryd.pinned (.plain (OpenSpec.ofChange blocksStaleSpec)) blocksStaleCard

/-- THE TIED CARD OF 'concordlaw02.BlocksNil'. -/
def blocksNilCard : Claim7 := { stood := { row := blocksNilRow, standIns := [], harness := (true, "6c088e7555b6b7e97f62a943049aae22b8399449767ee3daa421726ff909d696"), looks := true }, kinds := [], alts := [], laidByText := true, laidKinds := [.handle], laidTests := true, laidLooks := .later }
def BlocksNilCardSaid : Prop := Claim7.holds Tryd.pinned (.plain (OpenSpec.ofChange blocksNilSpec)) blocksNilCard

/-- THE SECOND FORM's CARD OF 'concordlaw05.ThreadNil'. -/
def threadNilUptoCard : Claim7 := { stood := { row := threadNilUptoRow, standIns := [], harness := (true, "6c088e7555b6b7e97f62a943049aae22b8399449767ee3daa421726ff909d696"), looks := true }, kinds := [], alts := [], laidByText := true, laidKinds := [.handle], laidTests := true, laidLooks := .later }
def ThreadNilUptoCardSaid : Prop := Claim7.holds Tryd.pinned (.plain (OpenSpec.upto threadNilSpec)) threadNilUptoCard

/-- THE SECOND FORM's CARD OF 'concordlaw02.BlocksRoom'. -/
def blocksRoomUptoCard : Claim7 := { stood := { row := blocksRoomUptoRow, standIns := [], harness := (true, "6c088e7555b6b7e97f62a943049aae22b8399449767ee3daa421726ff909d696"), looks := true }, kinds := [], alts := [], laidByText := true, laidKinds := [.handle], laidTests := true, laidLooks := .later }
def BlocksRoomUptoCardSaid : Prop := Claim7.holds Tryd.pinned (.plain (OpenSpec.upto blocksRoomSpec)) blocksRoomUptoCard

/-- THE SECOND FORM's CARD OF 'concordlaw02.BlocksApart'. -/
def blocksApartUptoCard : Claim7 := { stood := { row := blocksApartUptoRow, standIns := [], harness := (true, "6c088e7555b6b7e97f62a943049aae22b8399449767ee3daa421726ff909d696"), looks := true }, kinds := [], alts := [], laidByText := true, laidKinds := [.handle], laidTests := true, laidLooks := .later }
def BlocksApartUptoCardSaid : Prop := Claim7.holds Tryd.pinned (.plain (OpenSpec.upto blocksApartSpec)) blocksApartUptoCard

/-- THE SECOND FORM's CARD OF 'concordlaw02.BlocksStale'. -/
def blocksStaleUptoCard : Claim7 := { stood := { row := blocksStaleUptoRow, standIns := [], harness := (true, "6c088e7555b6b7e97f62a943049aae22b8399449767ee3daa421726ff909d696"), looks := true }, kinds := [], alts := [], laidByText := true, laidKinds := [.handle], laidTests := true, laidLooks := .later }
def BlocksStaleUptoCardSaid : Prop := Claim7.holds Tryd.pinned (.plain (OpenSpec.upto blocksStaleSpec)) blocksStaleUptoCard

/-- THE SECOND FORM's CARD OF 'concordlaw02.BlocksNil'. -/
def blocksNilUptoCard : Claim7 := { stood := { row := blocksNilUptoRow, standIns := [], harness := (true, "6c088e7555b6b7e97f62a943049aae22b8399449767ee3daa421726ff909d696"), looks := true }, kinds := [], alts := [], laidByText := true, laidKinds := [.handle], laidTests := true, laidLooks := .later }
def BlocksNilUptoCardSaid : Prop := Claim7.holds Tryd.pinned (.plain (OpenSpec.upto blocksNilSpec)) blocksNilUptoCard
end Rows
end Go.Proofs.YtfehonejcambgaaDoor
