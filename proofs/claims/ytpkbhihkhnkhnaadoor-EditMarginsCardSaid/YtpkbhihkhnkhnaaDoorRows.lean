/-
  NARROWER THAN 'FOR EVERY INPUT', by the rows' own cells (each row's printed sentence says how): EditTells: laid · EditBack: laid · ChunkMeets: laid · ChunkBegins: laid · ChunkTells: laid · ChunkTiles: laid · LinesTile: laid · LinesAlign: laid · LinesMeet: laid · EditMargins: laid · EditStays: laid.
  DERIVED. THE GIVEN ROWS OF THIS SEAT. 11 by the template 'for every input the law returns true; each argument reads behind the call as it read before'; 0 by the template 'total and deterministic' (their statements: YtpkbhihkhnkhnaaDoorTotals.lean).
  GIVEN WITH THE SEED: the statements are not yours to turn. If you find one false, say at which input.
  Laid BY PROGRAM, IN A SANDBOX (cutbox-rows.mjs): the forced cells as the released guide's own fill.sh prints them over the translation 39cad823579a2d34… (all of the seat's roots in one cut). By AI agents, Wed Nov 11 2026. No macro, syntax, notation, axiom, sorry.
-/
import Derived.Test.YtpkbhihkhnkhnaaDoorChecked
import GoSem.Claim
import GoSem.ClaimJoined
import GoSem.ClaimMapViews
import Derived.JoinedTies
import Derived.KernelRfl
namespace Go.Proofs.YtpkbhihkhnkhnaaDoor
/- THE CELL 'sum', in the pinned program and in every row, IS THE sha256 OF THE DUMP (.gsa) THAT YtpkbhihkhnkhnaaDoorProg.lean LOADS. Nothing in Lean hashes anything: it is a label: what it is worth is what the hold of that sum in a sandbox is worth. -/
noncomputable def Tryd.pinned : Pinned := { name := "ytpkbhihkhnkhnaadoor", sum := "39cad823579a2d348e365511f058a4a111c8226cdb25a83fed82d053c39e2512", checked := Tryd.checked }
namespace Rows
def none {H : Type} : Left H := { results := [], args := [] }

/- WHAT THE LISTED PACKAGE-LEVEL VARIABLES READ AS WHEN THE CALL BEGINS. Each datum BY PROGRAM (the guide's laid-datum.mjs) off the statement by which the dump's own 'gosem.cut.vars' lays the variable. In a bare row this is a premise. The card (YtpkbhihkhnkhnaaDoorCards.lean) ties it to the program's text. -/
def laid_maslin_chunk_needs {H : Type} : DataW H := .iface "func table" (.slice [.iface "func" (.lit (.string [109, 97, 115, 108, 105, 110, 47, 99, 104, 117, 110, 107, 46, 110, 101, 101, 100, 115, 36, 49])), .iface "func" (.lit (.string [109, 97, 115, 108, 105, 110, 47, 99, 104, 117, 110, 107, 46, 110, 101, 101, 100, 115, 36, 50])), .iface "func" (.lit (.string [109, 97, 115, 108, 105, 110, 47, 99, 104, 117, 110, 107, 46, 110, 101, 101, 100, 115, 36, 51])), .iface "func" (.lit (.string [109, 97, 115, 108, 105, 110, 47, 99, 104, 117, 110, 107, 46, 110, 101, 101, 100, 115, 36, 52]))] [])

/-- 'maslinlaw11.EditTells': WHATEVER THE INPUT: true; the input reads as it did. -/
def editTellsSpec : ChangeSpec := { name := "editTells", fn := fun _ => fun
  | [d1, d2, d3, d4, d5, d6] => { results := [.lit (.bool true)], args := [d1, d2, d3, d4, d5, d6] }
  | _ => none }
def editTellsRow : OpenClaim := { program := "ytpkbhihkhnkhnaadoor", sum := "39cad823579a2d348e365511f058a4a111c8226cdb25a83fed82d053c39e2512", func := "maslin/maslinlaw11.EditTells", spec := "editTells", inPlace := ["internal/bytealg.IndexByteString"], unfollowed := true, recurses := true, named := ["maslin/chunk.needs"], apart := false, laid := [("maslin/chunk.needs", laid_maslin_chunk_needs)] }
def EditTellsSaid : Prop := editTellsRow.holds Tryd.pinned (OpenSpec.ofChange editTellsSpec)

/-- ITS FALSE NEIGHBOUR: 'it returns false'. Refute it at one input. -/
def editTellsWrong : ChangeSpec := { name := "editTells", fn := fun _ => fun
  | [d1, d2, d3, d4, d5, d6] => { results := [.lit (.bool false)], args := [d1, d2, d3, d4, d5, d6] }
  | _ => none }
def EditTellsWrongFalsely : Prop := editTellsRow.holds Tryd.pinned (OpenSpec.ofChange editTellsWrong)

/-- 'maslinlaw11.EditBack': WHATEVER THE INPUT: true; the input reads as it did. -/
def editBackSpec : ChangeSpec := { name := "editBack", fn := fun _ => fun
  | [d1, d2, d3] => { results := [.lit (.bool true)], args := [d1, d2, d3] }
  | _ => none }
def editBackRow : OpenClaim := { program := "ytpkbhihkhnkhnaadoor", sum := "39cad823579a2d348e365511f058a4a111c8226cdb25a83fed82d053c39e2512", func := "maslin/maslinlaw11.EditBack", spec := "editBack", inPlace := ["internal/bytealg.IndexByteString"], unfollowed := true, recurses := true, named := ["maslin/chunk.needs"], apart := false, laid := [("maslin/chunk.needs", laid_maslin_chunk_needs)] }
def EditBackSaid : Prop := editBackRow.holds Tryd.pinned (OpenSpec.ofChange editBackSpec)

/-- ITS FALSE NEIGHBOUR: 'it returns false'. Refute it at one input. -/
def editBackWrong : ChangeSpec := { name := "editBack", fn := fun _ => fun
  | [d1, d2, d3] => { results := [.lit (.bool false)], args := [d1, d2, d3] }
  | _ => none }
def EditBackWrongFalsely : Prop := editBackRow.holds Tryd.pinned (OpenSpec.ofChange editBackWrong)

/-- 'maslinlaw09.ChunkMeets': WHATEVER THE INPUT: true; the input reads as it did. -/
def chunkMeetsSpec : ChangeSpec := { name := "chunkMeets", fn := fun _ => fun
  | [d1, d2, d3, d4] => { results := [.lit (.bool true)], args := [d1, d2, d3, d4] }
  | _ => none }
def chunkMeetsRow : OpenClaim := { program := "ytpkbhihkhnkhnaadoor", sum := "39cad823579a2d348e365511f058a4a111c8226cdb25a83fed82d053c39e2512", func := "maslin/maslinlaw09.ChunkMeets", spec := "chunkMeets", unfollowed := true, recurses := true, named := ["maslin/chunk.needs"], apart := false, laid := [("maslin/chunk.needs", laid_maslin_chunk_needs)] }
def ChunkMeetsSaid : Prop := chunkMeetsRow.holds Tryd.pinned (OpenSpec.ofChange chunkMeetsSpec)

/-- ITS FALSE NEIGHBOUR: 'it returns false'. Refute it at one input. -/
def chunkMeetsWrong : ChangeSpec := { name := "chunkMeets", fn := fun _ => fun
  | [d1, d2, d3, d4] => { results := [.lit (.bool false)], args := [d1, d2, d3, d4] }
  | _ => none }
def ChunkMeetsWrongFalsely : Prop := chunkMeetsRow.holds Tryd.pinned (OpenSpec.ofChange chunkMeetsWrong)

/-- 'maslinlaw09.ChunkBegins': WHATEVER THE INPUT: true; the input reads as it did. -/
def chunkBeginsSpec : ChangeSpec := { name := "chunkBegins", fn := fun _ => fun
  | [d1, d2, d3, d4] => { results := [.lit (.bool true)], args := [d1, d2, d3, d4] }
  | _ => none }
def chunkBeginsRow : OpenClaim := { program := "ytpkbhihkhnkhnaadoor", sum := "39cad823579a2d348e365511f058a4a111c8226cdb25a83fed82d053c39e2512", func := "maslin/maslinlaw09.ChunkBegins", spec := "chunkBegins", unfollowed := true, recurses := true, named := ["maslin/chunk.needs"], apart := false, laid := [("maslin/chunk.needs", laid_maslin_chunk_needs)] }
def ChunkBeginsSaid : Prop := chunkBeginsRow.holds Tryd.pinned (OpenSpec.ofChange chunkBeginsSpec)

/-- ITS FALSE NEIGHBOUR: 'it returns false'. Refute it at one input. -/
def chunkBeginsWrong : ChangeSpec := { name := "chunkBegins", fn := fun _ => fun
  | [d1, d2, d3, d4] => { results := [.lit (.bool false)], args := [d1, d2, d3, d4] }
  | _ => none }
def ChunkBeginsWrongFalsely : Prop := chunkBeginsRow.holds Tryd.pinned (OpenSpec.ofChange chunkBeginsWrong)

/-- 'maslinlaw09.ChunkTells': WHATEVER THE INPUT: true; the input reads as it did. -/
def chunkTellsSpec : ChangeSpec := { name := "chunkTells", fn := fun _ => fun
  | [d1, d2, d3] => { results := [.lit (.bool true)], args := [d1, d2, d3] }
  | _ => none }
def chunkTellsRow : OpenClaim := { program := "ytpkbhihkhnkhnaadoor", sum := "39cad823579a2d348e365511f058a4a111c8226cdb25a83fed82d053c39e2512", func := "maslin/maslinlaw09.ChunkTells", spec := "chunkTells", unfollowed := true, recurses := true, named := ["maslin/chunk.needs"], apart := false, laid := [("maslin/chunk.needs", laid_maslin_chunk_needs)] }
def ChunkTellsSaid : Prop := chunkTellsRow.holds Tryd.pinned (OpenSpec.ofChange chunkTellsSpec)

/-- ITS FALSE NEIGHBOUR: 'it returns false'. Refute it at one input. -/
def chunkTellsWrong : ChangeSpec := { name := "chunkTells", fn := fun _ => fun
  | [d1, d2, d3] => { results := [.lit (.bool false)], args := [d1, d2, d3] }
  | _ => none }
def ChunkTellsWrongFalsely : Prop := chunkTellsRow.holds Tryd.pinned (OpenSpec.ofChange chunkTellsWrong)

/-- 'maslinlaw09.ChunkTiles': WHATEVER THE INPUT: true; the input reads as it did. -/
def chunkTilesSpec : ChangeSpec := { name := "chunkTiles", fn := fun _ => fun
  | [d1, d2] => { results := [.lit (.bool true)], args := [d1, d2] }
  | _ => none }
def chunkTilesRow : OpenClaim := { program := "ytpkbhihkhnkhnaadoor", sum := "39cad823579a2d348e365511f058a4a111c8226cdb25a83fed82d053c39e2512", func := "maslin/maslinlaw09.ChunkTiles", spec := "chunkTiles", unfollowed := true, recurses := true, named := ["maslin/chunk.needs"], apart := false, laid := [("maslin/chunk.needs", laid_maslin_chunk_needs)] }
def ChunkTilesSaid : Prop := chunkTilesRow.holds Tryd.pinned (OpenSpec.ofChange chunkTilesSpec)

/-- ITS FALSE NEIGHBOUR: 'it returns false'. Refute it at one input. -/
def chunkTilesWrong : ChangeSpec := { name := "chunkTiles", fn := fun _ => fun
  | [d1, d2] => { results := [.lit (.bool false)], args := [d1, d2] }
  | _ => none }
def ChunkTilesWrongFalsely : Prop := chunkTilesRow.holds Tryd.pinned (OpenSpec.ofChange chunkTilesWrong)

/-- 'maslinlaw10.LinesTile': WHATEVER THE INPUT: true; the input reads as it did. -/
def linesTileSpec : ChangeSpec := { name := "linesTile", fn := fun _ => fun
  | [d1, d2] => { results := [.lit (.bool true)], args := [d1, d2] }
  | _ => none }
def linesTileRow : OpenClaim := { program := "ytpkbhihkhnkhnaadoor", sum := "39cad823579a2d348e365511f058a4a111c8226cdb25a83fed82d053c39e2512", func := "maslin/maslinlaw10.LinesTile", spec := "linesTile", inPlace := ["internal/bytealg.IndexByteString"], unfollowed := true, recurses := true, named := ["maslin/chunk.needs"], apart := false, laid := [("maslin/chunk.needs", laid_maslin_chunk_needs)] }
def LinesTileSaid : Prop := linesTileRow.holds Tryd.pinned (OpenSpec.ofChange linesTileSpec)

/-- ITS FALSE NEIGHBOUR: 'it returns false'. Refute it at one input. -/
def linesTileWrong : ChangeSpec := { name := "linesTile", fn := fun _ => fun
  | [d1, d2] => { results := [.lit (.bool false)], args := [d1, d2] }
  | _ => none }
def LinesTileWrongFalsely : Prop := linesTileRow.holds Tryd.pinned (OpenSpec.ofChange linesTileWrong)

/-- 'maslinlaw10.LinesAlign': WHATEVER THE INPUT: true; the input reads as it did. -/
def linesAlignSpec : ChangeSpec := { name := "linesAlign", fn := fun _ => fun
  | [d1, d2, d3] => { results := [.lit (.bool true)], args := [d1, d2, d3] }
  | _ => none }
def linesAlignRow : OpenClaim := { program := "ytpkbhihkhnkhnaadoor", sum := "39cad823579a2d348e365511f058a4a111c8226cdb25a83fed82d053c39e2512", func := "maslin/maslinlaw10.LinesAlign", spec := "linesAlign", inPlace := ["internal/bytealg.IndexByteString"], unfollowed := true, recurses := true, named := ["maslin/chunk.needs"], apart := false, laid := [("maslin/chunk.needs", laid_maslin_chunk_needs)] }
def LinesAlignSaid : Prop := linesAlignRow.holds Tryd.pinned (OpenSpec.ofChange linesAlignSpec)

/-- ITS FALSE NEIGHBOUR: 'it returns false'. Refute it at one input. -/
def linesAlignWrong : ChangeSpec := { name := "linesAlign", fn := fun _ => fun
  | [d1, d2, d3] => { results := [.lit (.bool false)], args := [d1, d2, d3] }
  | _ => none }
def LinesAlignWrongFalsely : Prop := linesAlignRow.holds Tryd.pinned (OpenSpec.ofChange linesAlignWrong)

/-- 'maslinlaw10.LinesMeet': WHATEVER THE INPUT: true; the input reads as it did. -/
def linesMeetSpec : ChangeSpec := { name := "linesMeet", fn := fun _ => fun
  | [d1, d2, d3, d4] => { results := [.lit (.bool true)], args := [d1, d2, d3, d4] }
  | _ => none }
def linesMeetRow : OpenClaim := { program := "ytpkbhihkhnkhnaadoor", sum := "39cad823579a2d348e365511f058a4a111c8226cdb25a83fed82d053c39e2512", func := "maslin/maslinlaw10.LinesMeet", spec := "linesMeet", inPlace := ["internal/bytealg.IndexByteString"], unfollowed := true, recurses := true, named := ["maslin/chunk.needs"], apart := false, laid := [("maslin/chunk.needs", laid_maslin_chunk_needs)] }
def LinesMeetSaid : Prop := linesMeetRow.holds Tryd.pinned (OpenSpec.ofChange linesMeetSpec)

/-- ITS FALSE NEIGHBOUR: 'it returns false'. Refute it at one input. -/
def linesMeetWrong : ChangeSpec := { name := "linesMeet", fn := fun _ => fun
  | [d1, d2, d3, d4] => { results := [.lit (.bool false)], args := [d1, d2, d3, d4] }
  | _ => none }
def LinesMeetWrongFalsely : Prop := linesMeetRow.holds Tryd.pinned (OpenSpec.ofChange linesMeetWrong)

/-- 'maslinlaw11.EditMargins': WHATEVER THE INPUT: true; the input reads as it did. -/
def editMarginsSpec : ChangeSpec := { name := "editMargins", fn := fun _ => fun
  | [d1, d2, d3] => { results := [.lit (.bool true)], args := [d1, d2, d3] }
  | _ => none }
def editMarginsRow : OpenClaim := { program := "ytpkbhihkhnkhnaadoor", sum := "39cad823579a2d348e365511f058a4a111c8226cdb25a83fed82d053c39e2512", func := "maslin/maslinlaw11.EditMargins", spec := "editMargins", inPlace := ["internal/bytealg.IndexByteString"], unfollowed := true, recurses := true, named := ["maslin/chunk.needs"], apart := false, laid := [("maslin/chunk.needs", laid_maslin_chunk_needs)] }
def EditMarginsSaid : Prop := editMarginsRow.holds Tryd.pinned (OpenSpec.ofChange editMarginsSpec)

/-- ITS FALSE NEIGHBOUR: 'it returns false'. Refute it at one input. -/
def editMarginsWrong : ChangeSpec := { name := "editMargins", fn := fun _ => fun
  | [d1, d2, d3] => { results := [.lit (.bool false)], args := [d1, d2, d3] }
  | _ => none }
def EditMarginsWrongFalsely : Prop := editMarginsRow.holds Tryd.pinned (OpenSpec.ofChange editMarginsWrong)

/-- 'maslinlaw11.EditStays': WHATEVER THE INPUT: true; the input reads as it did. -/
def editStaysSpec : ChangeSpec := { name := "editStays", fn := fun _ => fun
  | [d1, d2, d3] => { results := [.lit (.bool true)], args := [d1, d2, d3] }
  | _ => none }
def editStaysRow : OpenClaim := { program := "ytpkbhihkhnkhnaadoor", sum := "39cad823579a2d348e365511f058a4a111c8226cdb25a83fed82d053c39e2512", func := "maslin/maslinlaw11.EditStays", spec := "editStays", inPlace := ["internal/bytealg.IndexByteString"], unfollowed := true, recurses := true, named := ["maslin/chunk.needs"], apart := false, laid := [("maslin/chunk.needs", laid_maslin_chunk_needs)] }
def EditStaysSaid : Prop := editStaysRow.holds Tryd.pinned (OpenSpec.ofChange editStaysSpec)

/-- ITS FALSE NEIGHBOUR: 'it returns false'. Refute it at one input. -/
def editStaysWrong : ChangeSpec := { name := "editStays", fn := fun _ => fun
  | [d1, d2, d3] => { results := [.lit (.bool false)], args := [d1, d2, d3] }
  | _ => none }
def EditStaysWrongFalsely : Prop := editStaysRow.holds Tryd.pinned (OpenSpec.ofChange editStaysWrong)

/- THE SECOND FORM. 'bulk': how many values and letters a reading holds, each counted each time it is reached (what is shared counts as often as it is met; a slice's spare places count too). A statement '..UptoSaid' is the law's where the arguments, and the package variables that the reading takes, are together of bulk at most 1048576: NARROWER than '..Said'. Prove '..Said' where nothing that the law and all that it calls make is longer than what came in: it says more and counts as full. Else prove '..UptoSaid'. A law counts once. -/
mutual
def uptoBulk {H : Type} : DataW H → Nat
  | .lit (.string bytes) => bytes.length + 1
  | .lit _ => 1
  | .nil => 1
  | .ptr d => uptoBulk d + 1
  | .slice elems spare => uptoBulkAll elems + uptoBulkAll spare + 1
  | .agg parts => uptoBulkAll parts + 1
  | .iface _ d => uptoBulk d + 1
  | .map entries => uptoBulkEntries entries + 1
  | .held _ => 1
def uptoBulkAll {H : Type} : List (DataW H) → Nat
  | [] => 0
  | d :: r => uptoBulk d + uptoBulkAll r
def uptoBulkEntries {H : Type} : List (Lit × DataW H) → Nat
  | [] => 0
  | x :: r => uptoBulkEntry x + uptoBulkEntries r
def uptoBulkEntry {H : Type} : Lit × DataW H → Nat
  | (.string bytes, d) => bytes.length + uptoBulk d + 1
  | (_, d) => uptoBulk d + 1
 end
def uptoSmall : (H : Type) → List (DataW H) → Bool := fun _ ds => decide (uptoBulkAll ds ≤ 1048576)
def OpenSpec.upto (s : _root_.Go.ChangeSpec) : _root_.Go.OpenSpec := { _root_.Go.OpenSpec.ofChange s with cond := some uptoSmall }

/-- 'maslinlaw11.EditTells', WHERE WHAT IT READS IS OF BULK AT MOST 1048576: true; the input reads as it did. -/
def editTellsUptoRow : OpenClaim := { program := "ytpkbhihkhnkhnaadoor", sum := "39cad823579a2d348e365511f058a4a111c8226cdb25a83fed82d053c39e2512", func := "maslin/maslinlaw11.EditTells", spec := "editTells", inPlace := ["internal/bytealg.IndexByteString"], unfollowed := true, recurses := true, named := ["maslin/chunk.needs"], apart := false, laid := [("maslin/chunk.needs", laid_maslin_chunk_needs)], narrowed := true }
def EditTellsUptoSaid : Prop := editTellsUptoRow.holds Tryd.pinned (OpenSpec.upto editTellsSpec)

/-- 'maslinlaw11.EditBack', WHERE WHAT IT READS IS OF BULK AT MOST 1048576: true; the input reads as it did. -/
def editBackUptoRow : OpenClaim := { program := "ytpkbhihkhnkhnaadoor", sum := "39cad823579a2d348e365511f058a4a111c8226cdb25a83fed82d053c39e2512", func := "maslin/maslinlaw11.EditBack", spec := "editBack", inPlace := ["internal/bytealg.IndexByteString"], unfollowed := true, recurses := true, named := ["maslin/chunk.needs"], apart := false, laid := [("maslin/chunk.needs", laid_maslin_chunk_needs)], narrowed := true }
def EditBackUptoSaid : Prop := editBackUptoRow.holds Tryd.pinned (OpenSpec.upto editBackSpec)

/-- 'maslinlaw09.ChunkMeets', WHERE WHAT IT READS IS OF BULK AT MOST 1048576: true; the input reads as it did. -/
def chunkMeetsUptoRow : OpenClaim := { program := "ytpkbhihkhnkhnaadoor", sum := "39cad823579a2d348e365511f058a4a111c8226cdb25a83fed82d053c39e2512", func := "maslin/maslinlaw09.ChunkMeets", spec := "chunkMeets", unfollowed := true, recurses := true, named := ["maslin/chunk.needs"], apart := false, laid := [("maslin/chunk.needs", laid_maslin_chunk_needs)], narrowed := true }
def ChunkMeetsUptoSaid : Prop := chunkMeetsUptoRow.holds Tryd.pinned (OpenSpec.upto chunkMeetsSpec)

/-- 'maslinlaw09.ChunkBegins', WHERE WHAT IT READS IS OF BULK AT MOST 1048576: true; the input reads as it did. -/
def chunkBeginsUptoRow : OpenClaim := { program := "ytpkbhihkhnkhnaadoor", sum := "39cad823579a2d348e365511f058a4a111c8226cdb25a83fed82d053c39e2512", func := "maslin/maslinlaw09.ChunkBegins", spec := "chunkBegins", unfollowed := true, recurses := true, named := ["maslin/chunk.needs"], apart := false, laid := [("maslin/chunk.needs", laid_maslin_chunk_needs)], narrowed := true }
def ChunkBeginsUptoSaid : Prop := chunkBeginsUptoRow.holds Tryd.pinned (OpenSpec.upto chunkBeginsSpec)

/-- 'maslinlaw09.ChunkTells', WHERE WHAT IT READS IS OF BULK AT MOST 1048576: true; the input reads as it did. -/
def chunkTellsUptoRow : OpenClaim := { program := "ytpkbhihkhnkhnaadoor", sum := "39cad823579a2d348e365511f058a4a111c8226cdb25a83fed82d053c39e2512", func := "maslin/maslinlaw09.ChunkTells", spec := "chunkTells", unfollowed := true, recurses := true, named := ["maslin/chunk.needs"], apart := false, laid := [("maslin/chunk.needs", laid_maslin_chunk_needs)], narrowed := true }
def ChunkTellsUptoSaid : Prop := chunkTellsUptoRow.holds Tryd.pinned (OpenSpec.upto chunkTellsSpec)

/-- 'maslinlaw09.ChunkTiles', WHERE WHAT IT READS IS OF BULK AT MOST 1048576: true; the input reads as it did. -/
def chunkTilesUptoRow : OpenClaim := { program := "ytpkbhihkhnkhnaadoor", sum := "39cad823579a2d348e365511f058a4a111c8226cdb25a83fed82d053c39e2512", func := "maslin/maslinlaw09.ChunkTiles", spec := "chunkTiles", unfollowed := true, recurses := true, named := ["maslin/chunk.needs"], apart := false, laid := [("maslin/chunk.needs", laid_maslin_chunk_needs)], narrowed := true }
def ChunkTilesUptoSaid : Prop := chunkTilesUptoRow.holds Tryd.pinned (OpenSpec.upto chunkTilesSpec)

/-- 'maslinlaw10.LinesTile', WHERE WHAT IT READS IS OF BULK AT MOST 1048576: true; the input reads as it did. -/
def linesTileUptoRow : OpenClaim := { program := "ytpkbhihkhnkhnaadoor", sum := "39cad823579a2d348e365511f058a4a111c8226cdb25a83fed82d053c39e2512", func := "maslin/maslinlaw10.LinesTile", spec := "linesTile", inPlace := ["internal/bytealg.IndexByteString"], unfollowed := true, recurses := true, named := ["maslin/chunk.needs"], apart := false, laid := [("maslin/chunk.needs", laid_maslin_chunk_needs)], narrowed := true }
def LinesTileUptoSaid : Prop := linesTileUptoRow.holds Tryd.pinned (OpenSpec.upto linesTileSpec)

/-- 'maslinlaw10.LinesAlign', WHERE WHAT IT READS IS OF BULK AT MOST 1048576: true; the input reads as it did. -/
def linesAlignUptoRow : OpenClaim := { program := "ytpkbhihkhnkhnaadoor", sum := "39cad823579a2d348e365511f058a4a111c8226cdb25a83fed82d053c39e2512", func := "maslin/maslinlaw10.LinesAlign", spec := "linesAlign", inPlace := ["internal/bytealg.IndexByteString"], unfollowed := true, recurses := true, named := ["maslin/chunk.needs"], apart := false, laid := [("maslin/chunk.needs", laid_maslin_chunk_needs)], narrowed := true }
def LinesAlignUptoSaid : Prop := linesAlignUptoRow.holds Tryd.pinned (OpenSpec.upto linesAlignSpec)

/-- 'maslinlaw10.LinesMeet', WHERE WHAT IT READS IS OF BULK AT MOST 1048576: true; the input reads as it did. -/
def linesMeetUptoRow : OpenClaim := { program := "ytpkbhihkhnkhnaadoor", sum := "39cad823579a2d348e365511f058a4a111c8226cdb25a83fed82d053c39e2512", func := "maslin/maslinlaw10.LinesMeet", spec := "linesMeet", inPlace := ["internal/bytealg.IndexByteString"], unfollowed := true, recurses := true, named := ["maslin/chunk.needs"], apart := false, laid := [("maslin/chunk.needs", laid_maslin_chunk_needs)], narrowed := true }
def LinesMeetUptoSaid : Prop := linesMeetUptoRow.holds Tryd.pinned (OpenSpec.upto linesMeetSpec)

/-- 'maslinlaw11.EditMargins', WHERE WHAT IT READS IS OF BULK AT MOST 1048576: true; the input reads as it did. -/
def editMarginsUptoRow : OpenClaim := { program := "ytpkbhihkhnkhnaadoor", sum := "39cad823579a2d348e365511f058a4a111c8226cdb25a83fed82d053c39e2512", func := "maslin/maslinlaw11.EditMargins", spec := "editMargins", inPlace := ["internal/bytealg.IndexByteString"], unfollowed := true, recurses := true, named := ["maslin/chunk.needs"], apart := false, laid := [("maslin/chunk.needs", laid_maslin_chunk_needs)], narrowed := true }
def EditMarginsUptoSaid : Prop := editMarginsUptoRow.holds Tryd.pinned (OpenSpec.upto editMarginsSpec)

/-- 'maslinlaw11.EditStays', WHERE WHAT IT READS IS OF BULK AT MOST 1048576: true; the input reads as it did. -/
def editStaysUptoRow : OpenClaim := { program := "ytpkbhihkhnkhnaadoor", sum := "39cad823579a2d348e365511f058a4a111c8226cdb25a83fed82d053c39e2512", func := "maslin/maslinlaw11.EditStays", spec := "editStays", inPlace := ["internal/bytealg.IndexByteString"], unfollowed := true, recurses := true, named := ["maslin/chunk.needs"], apart := false, laid := [("maslin/chunk.needs", laid_maslin_chunk_needs)], narrowed := true }
def EditStaysUptoSaid : Prop := editStaysUptoRow.holds Tryd.pinned (OpenSpec.upto editStaysSpec)

end Rows
end Go.Proofs.YtpkbhihkhnkhnaaDoor
