/-
  DERIVED. GIVEN WITH THE SEED: THE CARDS: each row of YtclpbombaffmgaaDoorRows.lean that lists a variable, with what it lists TIED to the program's text (the seventh form; the later family's looks); each row that meets fmt, with fmt's text TOLD by the authors' own Lean function (tested against real Go, not proved from fmt's source: count such statements apart). THE CARD IS WHAT COUNTS. Prove the row's statement (the work); the ties are given (YtclpbombaffmgaaDoorTie.lean); close each card by the builder's one call (the guide's Derived/Test/ToyasCard.lean, 'card_holds'). Laid BY PROGRAM, IN A SANDBOX (cutbox-door.mjs). By AI agents, Wed Nov 11 2026. No macro, syntax, notation, axiom, sorry.
-/
import Derived.Test.YtclpbombaffmgaaDoorRows
import GoSem.ClaimSeven
namespace Go.Proofs.YtclpbombaffmgaaDoor
namespace Rows

/-- THE TIED CARD OF 'parquetlaw03.RatKnown'. -/
def ratKnownCard : Claim7 := { stood := { row := ratKnownRow, standIns := [], harness := (true, "757688dd81750c4bad07c5c87a5649d59e0a92fb24176cd90f7fef2653fea743"), looks := false }, kinds := [], alts := [], laidByText := true, laidKinds := [.data, .pinned], laidTests := true, laidLooks := .later }
def RatKnownCardSaid : Prop := Claim7.holds Tryd.pinned (.plain (OpenSpec.ofChange ratKnownSpec)) ratKnownCard

/-- THE SECOND FORM's CARD OF 'parquetlaw03.RatKnown'. -/
def ratKnownUptoCard : Claim7 := { stood := { row := ratKnownUptoRow, standIns := [], harness := (true, "757688dd81750c4bad07c5c87a5649d59e0a92fb24176cd90f7fef2653fea743"), looks := false }, kinds := [], alts := [], laidByText := true, laidKinds := [.data, .pinned], laidTests := true, laidLooks := .later }
def RatKnownUptoCardSaid : Prop := Claim7.holds Tryd.pinned (.plain (OpenSpec.upto ratKnownSpec)) ratKnownUptoCard
end Rows
end Go.Proofs.YtclpbombaffmgaaDoor
