/-
  DERIVED. GIVEN WITH THE SEED: THE CARDS: each row of YtdnigbbfiklaoaaDoorRows.lean that lists a variable, with what it lists TIED to the program's text (the seventh form; the later family's looks); each row that meets fmt, with fmt's text TOLD by the authors' own Lean function (tested against real Go, not proved from fmt's source: count such statements apart). THE CARD IS WHAT COUNTS. Prove the row's statement (the work); the ties are given (YtdnigbbfiklaoaaDoorTie.lean); close each card by the builder's one call (the guide's Derived/Test/ToyasCard.lean, 'card_holds'). Laid BY PROGRAM, IN A SANDBOX (cutbox-door.mjs). By AI agents, Wed Nov 11 2026. No macro, syntax, notation, axiom, sorry.
-/
import Derived.Test.YtdnigbbfiklaoaaDoorRows
import GoSem.ClaimSeven
namespace Go.Proofs.YtdnigbbfiklaoaaDoor
namespace Rows

/-- THE TIED CARD OF 'pharoslaw26.KeysOf'. -/
def keysOfCard : Claim7 := { stood := { row := keysOfRow, standIns := [], harness := (true, "57490fd439d2976f7b0c26d48f0d78f0f80abc5e37c71dea5a94c4922adeb744"), looks := false }, kinds := [], alts := [], laidByText := true, laidKinds := [.sentinel, .data], laidTests := true, laidLooks := .later }
def KeysOfCardSaid : Prop := Claim7.holds Tryd.pinned (.plain (OpenSpec.ofChange keysOfSpec)) keysOfCard

/-- THE SECOND FORM's CARD OF 'pharoslaw26.KeysOf'. -/
def keysOfUptoCard : Claim7 := { stood := { row := keysOfUptoRow, standIns := [], harness := (true, "57490fd439d2976f7b0c26d48f0d78f0f80abc5e37c71dea5a94c4922adeb744"), looks := false }, kinds := [], alts := [], laidByText := true, laidKinds := [.sentinel, .data], laidTests := true, laidLooks := .later }
def KeysOfUptoCardSaid : Prop := Claim7.holds Tryd.pinned (.plain (OpenSpec.upto keysOfSpec)) keysOfUptoCard
end Rows
end Go.Proofs.YtdnigbbfiklaoaaDoor
