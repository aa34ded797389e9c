/-
  DERIVED. GIVEN WITH THE SEED: THE CARDS: each row of YtpkbhihkhnkhnaaDoorRows.lean that lists a variable, with what it lists TIED to the program's text (the seventh form; the later family's looks); each row that meets fmt, with fmt's text TOLD by the authors' own Lean function (tested against real Go, not proved from fmt's source: count such statements apart). THE CARD IS WHAT COUNTS. Prove the row's statement (the work); the ties are given (YtpkbhihkhnkhnaaDoorTie.lean); close each card by the builder's one call (the guide's Derived/Test/ToyasCard.lean, 'card_holds'). Laid BY PROGRAM, IN A SANDBOX (cutbox-door.mjs). By AI agents, Wed Nov 11 2026. No macro, syntax, notation, axiom, sorry.
-/
import Derived.Test.YtpkbhihkhnkhnaaDoorRows
import GoSem.ClaimSeven
namespace Go.Proofs.YtpkbhihkhnkhnaaDoor
namespace Rows

/-- THE TIED CARD OF 'maslinlaw11.EditTells'. -/
def editTellsCard : Claim7 := { stood := { row := editTellsRow, standIns := [], harness := (true, "38eea67c8db3dd6332b9abcd4448c37e6e8aa1ba96cd52dc512b457af8e2f551"), looks := false }, kinds := [], alts := [], laidByText := true, laidKinds := [.funcs], laidTests := true, laidLooks := .later }
def EditTellsCardSaid : Prop := Claim7.holds Tryd.pinned (.plain (OpenSpec.ofChange editTellsSpec)) editTellsCard

/-- THE TIED CARD OF 'maslinlaw11.EditBack'. -/
def editBackCard : Claim7 := { stood := { row := editBackRow, standIns := [], harness := (true, "38eea67c8db3dd6332b9abcd4448c37e6e8aa1ba96cd52dc512b457af8e2f551"), looks := false }, kinds := [], alts := [], laidByText := true, laidKinds := [.funcs], laidTests := true, laidLooks := .later }
def EditBackCardSaid : Prop := Claim7.holds Tryd.pinned (.plain (OpenSpec.ofChange editBackSpec)) editBackCard

/-- THE TIED CARD OF 'maslinlaw09.ChunkMeets'. -/
def chunkMeetsCard : Claim7 := { stood := { row := chunkMeetsRow, standIns := [], harness := (true, "38eea67c8db3dd6332b9abcd4448c37e6e8aa1ba96cd52dc512b457af8e2f551"), looks := false }, kinds := [], alts := [], laidByText := true, laidKinds := [.funcs], laidTests := true, laidLooks := .later }
def ChunkMeetsCardSaid : Prop := Claim7.holds Tryd.pinned (.plain (OpenSpec.ofChange chunkMeetsSpec)) chunkMeetsCard

/-- THE TIED CARD OF 'maslinlaw09.ChunkBegins'. -/
def chunkBeginsCard : Claim7 := { stood := { row := chunkBeginsRow, standIns := [], harness := (true, "38eea67c8db3dd6332b9abcd4448c37e6e8aa1ba96cd52dc512b457af8e2f551"), looks := false }, kinds := [], alts := [], laidByText := true, laidKinds := [.funcs], laidTests := true, laidLooks := .later }
def ChunkBeginsCardSaid : Prop := Claim7.holds Tryd.pinned (.plain (OpenSpec.ofChange chunkBeginsSpec)) chunkBeginsCard

/-- THE TIED CARD OF 'maslinlaw09.ChunkTells'. -/
def chunkTellsCard : Claim7 := { stood := { row := chunkTellsRow, standIns := [], harness := (true, "38eea67c8db3dd6332b9abcd4448c37e6e8aa1ba96cd52dc512b457af8e2f551"), looks := false }, kinds := [], alts := [], laidByText := true, laidKinds := [.funcs], laidTests := true, laidLooks := .later }
def ChunkTellsCardSaid : Prop := Claim7.holds Tryd.pinned (.plain (OpenSpec.ofChange chunkTellsSpec)) chunkTellsCard

/-- THE TIED CARD OF 'maslinlaw09.ChunkTiles'. -/
def chunkTilesCard : Claim7 := { stood := { row := chunkTilesRow, standIns := [], harness := (true, "38eea67c8db3dd6332b9abcd4448c37e6e8aa1ba96cd52dc512b457af8e2f551"), looks := false }, kinds := [], alts := [], laidByText := true, laidKinds := [.funcs], laidTests := true, laidLooks := .later }
def ChunkTilesCardSaid : Prop := Claim7.holds Tryd.pinned (.plain (OpenSpec.ofChange chunkTilesSpec)) chunkTilesCard

/-- THE TIED CARD OF 'maslinlaw10.LinesTile'. -/
def linesTileCard : Claim7 := { stood := { row := linesTileRow, standIns := [], harness := (true, "38eea67c8db3dd6332b9abcd4448c37e6e8aa1ba96cd52dc512b457af8e2f551"), looks := false }, kinds := [], alts := [], laidByText := true, laidKinds := [.funcs], laidTests := true, laidLooks := .later }
def LinesTileCardSaid : Prop := Claim7.holds Tryd.pinned (.plain (OpenSpec.ofChange linesTileSpec)) linesTileCard

/-- THE TIED CARD OF 'maslinlaw10.LinesAlign'. -/
def linesAlignCard : Claim7 := { stood := { row := linesAlignRow, standIns := [], harness := (true, "38eea67c8db3dd6332b9abcd4448c37e6e8aa1ba96cd52dc512b457af8e2f551"), looks := false }, kinds := [], alts := [], laidByText := true, laidKinds := [.funcs], laidTests := true, laidLooks := .later }
def LinesAlignCardSaid : Prop := Claim7.holds Tryd.pinned (.plain (OpenSpec.ofChange linesAlignSpec)) linesAlignCard

/-- THE TIED CARD OF 'maslinlaw10.LinesMeet'. -/
def linesMeetCard : Claim7 := { stood := { row := linesMeetRow, standIns := [], harness := (true, "38eea67c8db3dd6332b9abcd4448c37e6e8aa1ba96cd52dc512b457af8e2f551"), looks := false }, kinds := [], alts := [], laidByText := true, laidKinds := [.funcs], laidTests := true, laidLooks := .later }
def LinesMeetCardSaid : Prop := Claim7.holds Tryd.pinned (.plain (OpenSpec.ofChange linesMeetSpec)) linesMeetCard

/-- THE TIED CARD OF 'maslinlaw11.EditMargins'. -/
def editMarginsCard : Claim7 := { stood := { row := editMarginsRow, standIns := [], harness := (true, "38eea67c8db3dd6332b9abcd4448c37e6e8aa1ba96cd52dc512b457af8e2f551"), looks := false }, kinds := [], alts := [], laidByText := true, laidKinds := [.funcs], laidTests := true, laidLooks := .later }
def EditMarginsCardSaid : Prop := Claim7.holds Tryd.pinned (.plain (OpenSpec.ofChange editMarginsSpec)) editMarginsCard

/-- THE TIED CARD OF 'maslinlaw11.EditStays'. -/
def editStaysCard : Claim7 := { stood := { row := editStaysRow, standIns := [], harness := (true, "38eea67c8db3dd6332b9abcd4448c37e6e8aa1ba96cd52dc512b457af8e2f551"), looks := false }, kinds := [], alts := [], laidByText := true, laidKinds := [.funcs], laidTests := true, laidLooks := .later }
def EditStaysCardSaid : Prop := Claim7.holds Tryd.pinned (.plain (OpenSpec.ofChange editStaysSpec)) editStaysCard

/-- THE SECOND FORM's CARD OF 'maslinlaw11.EditTells'. -/
def editTellsUptoCard : Claim7 := { stood := { row := editTellsUptoRow, standIns := [], harness := (true, "38eea67c8db3dd6332b9abcd4448c37e6e8aa1ba96cd52dc512b457af8e2f551"), looks := false }, kinds := [], alts := [], laidByText := true, laidKinds := [.funcs], laidTests := true, laidLooks := .later }
def EditTellsUptoCardSaid : Prop := Claim7.holds Tryd.pinned (.plain (OpenSpec.upto editTellsSpec)) editTellsUptoCard

/-- THE SECOND FORM's CARD OF 'maslinlaw11.EditBack'. -/
def editBackUptoCard : Claim7 := { stood := { row := editBackUptoRow, standIns := [], harness := (true, "38eea67c8db3dd6332b9abcd4448c37e6e8aa1ba96cd52dc512b457af8e2f551"), looks := false }, kinds := [], alts := [], laidByText := true, laidKinds := [.funcs], laidTests := true, laidLooks := .later }
def EditBackUptoCardSaid : Prop := Claim7.holds Tryd.pinned (.plain (OpenSpec.upto editBackSpec)) editBackUptoCard

/-- THE SECOND FORM's CARD OF 'maslinlaw09.ChunkMeets'. -/
def chunkMeetsUptoCard : Claim7 := { stood := { row := chunkMeetsUptoRow, standIns := [], harness := (true, "38eea67c8db3dd6332b9abcd4448c37e6e8aa1ba96cd52dc512b457af8e2f551"), looks := false }, kinds := [], alts := [], laidByText := true, laidKinds := [.funcs], laidTests := true, laidLooks := .later }
def ChunkMeetsUptoCardSaid : Prop := Claim7.holds Tryd.pinned (.plain (OpenSpec.upto chunkMeetsSpec)) chunkMeetsUptoCard

/-- THE SECOND FORM's CARD OF 'maslinlaw09.ChunkBegins'. -/
def chunkBeginsUptoCard : Claim7 := { stood := { row := chunkBeginsUptoRow, standIns := [], harness := (true, "38eea67c8db3dd6332b9abcd4448c37e6e8aa1ba96cd52dc512b457af8e2f551"), looks := false }, kinds := [], alts := [], laidByText := true, laidKinds := [.funcs], laidTests := true, laidLooks := .later }
def ChunkBeginsUptoCardSaid : Prop := Claim7.holds Tryd.pinned (.plain (OpenSpec.upto chunkBeginsSpec)) chunkBeginsUptoCard

/-- THE SECOND FORM's CARD OF 'maslinlaw09.ChunkTells'. -/
def chunkTellsUptoCard : Claim7 := { stood := { row := chunkTellsUptoRow, standIns := [], harness := (true, "38eea67c8db3dd6332b9abcd4448c37e6e8aa1ba96cd52dc512b457af8e2f551"), looks := false }, kinds := [], alts := [], laidByText := true, laidKinds := [.funcs], laidTests := true, laidLooks := .later }
def ChunkTellsUptoCardSaid : Prop := Claim7.holds Tryd.pinned (.plain (OpenSpec.upto chunkTellsSpec)) chunkTellsUptoCard

/-- THE SECOND FORM's CARD OF 'maslinlaw09.ChunkTiles'. -/
def chunkTilesUptoCard : Claim7 := { stood := { row := chunkTilesUptoRow, standIns := [], harness := (true, "38eea67c8db3dd6332b9abcd4448c37e6e8aa1ba96cd52dc512b457af8e2f551"), looks := false }, kinds := [], alts := [], laidByText := true, laidKinds := [.funcs], laidTests := true, laidLooks := .later }
def ChunkTilesUptoCardSaid : Prop := Claim7.holds Tryd.pinned (.plain (OpenSpec.upto chunkTilesSpec)) chunkTilesUptoCard

/-- THE SECOND FORM's CARD OF 'maslinlaw10.LinesTile'. -/
def linesTileUptoCard : Claim7 := { stood := { row := linesTileUptoRow, standIns := [], harness := (true, "38eea67c8db3dd6332b9abcd4448c37e6e8aa1ba96cd52dc512b457af8e2f551"), looks := false }, kinds := [], alts := [], laidByText := true, laidKinds := [.funcs], laidTests := true, laidLooks := .later }
def LinesTileUptoCardSaid : Prop := Claim7.holds Tryd.pinned (.plain (OpenSpec.upto linesTileSpec)) linesTileUptoCard

/-- THE SECOND FORM's CARD OF 'maslinlaw10.LinesAlign'. -/
def linesAlignUptoCard : Claim7 := { stood := { row := linesAlignUptoRow, standIns := [], harness := (true, "38eea67c8db3dd6332b9abcd4448c37e6e8aa1ba96cd52dc512b457af8e2f551"), looks := false }, kinds := [], alts := [], laidByText := true, laidKinds := [.funcs], laidTests := true, laidLooks := .later }
def LinesAlignUptoCardSaid : Prop := Claim7.holds Tryd.pinned (.plain (OpenSpec.upto linesAlignSpec)) linesAlignUptoCard

/-- THE SECOND FORM's CARD OF 'maslinlaw10.LinesMeet'. -/
def linesMeetUptoCard : Claim7 := { stood := { row := linesMeetUptoRow, standIns := [], harness := (true, "38eea67c8db3dd6332b9abcd4448c37e6e8aa1ba96cd52dc512b457af8e2f551"), looks := false }, kinds := [], alts := [], laidByText := true, laidKinds := [.funcs], laidTests := true, laidLooks := .later }
def LinesMeetUptoCardSaid : Prop := Claim7.holds Tryd.pinned (.plain (OpenSpec.upto linesMeetSpec)) linesMeetUptoCard

/-- THE SECOND FORM's CARD OF 'maslinlaw11.EditMargins'. -/
def editMarginsUptoCard : Claim7 := { stood := { row := editMarginsUptoRow, standIns := [], harness := (true, "38eea67c8db3dd6332b9abcd4448c37e6e8aa1ba96cd52dc512b457af8e2f551"), looks := false }, kinds := [], alts := [], laidByText := true, laidKinds := [.funcs], laidTests := true, laidLooks := .later }
def EditMarginsUptoCardSaid : Prop := Claim7.holds Tryd.pinned (.plain (OpenSpec.upto editMarginsSpec)) editMarginsUptoCard

/-- THE SECOND FORM's CARD OF 'maslinlaw11.EditStays'. -/
def editStaysUptoCard : Claim7 := { stood := { row := editStaysUptoRow, standIns := [], harness := (true, "38eea67c8db3dd6332b9abcd4448c37e6e8aa1ba96cd52dc512b457af8e2f551"), looks := false }, kinds := [], alts := [], laidByText := true, laidKinds := [.funcs], laidTests := true, laidLooks := .later }
def EditStaysUptoCardSaid : Prop := Claim7.holds Tryd.pinned (.plain (OpenSpec.upto editStaysSpec)) editStaysUptoCard
end Rows
end Go.Proofs.YtpkbhihkhnkhnaaDoor
