/-
  DERIVED. GIVEN WITH THE SEED: THE CARDS: each row of YtmnlebkpneeblaaDoorRows.lean that lists a variable, with what it lists TIED to the program's text (the seventh form; the later family's looks); each row that meets fmt, with fmt's text TOLD by the authors' own Lean function (tested against real Go, not proved from fmt's source: count such statements apart). THE CARD IS WHAT COUNTS. Prove the row's statement (the work); the ties are given (YtmnlebkpneeblaaDoorTie.lean); close each card by the builder's one call (the guide's Derived/Test/ToyasCard.lean, 'card_holds'). Laid BY PROGRAM, IN A SANDBOX (cutbox-door.mjs). By AI agents, Wed Nov 11 2026. No macro, syntax, notation, axiom, sorry.
-/
import Derived.Test.YtmnlebkpneeblaaDoorRows
import GoSem.ClaimSeven
namespace Go.Proofs.YtmnlebkpneeblaaDoor
namespace Rows

/-- THE TIED CARD OF 'satchellaw28.ManifestSums'. -/
def manifestSumsCard : Claim7 := { stood := { row := manifestSumsRow, standIns := [], harness := (true, "543d506d101d3aaa3766904f43288964b66a29e4147685d043c84e065f646638"), looks := false }, kinds := [], alts := [], laidByText := true, laidKinds := [.data, .data], laidTests := true, laidLooks := .later }
def ManifestSumsCardSaid : Prop := Claim7.holds Tryd.pinned (.plain (OpenSpec.ofChange manifestSumsSpec)) manifestSumsCard

/-- THE SECOND FORM's CARD OF 'satchellaw28.ManifestSums'. -/
def manifestSumsUptoCard : Claim7 := { stood := { row := manifestSumsUptoRow, standIns := [], harness := (true, "543d506d101d3aaa3766904f43288964b66a29e4147685d043c84e065f646638"), looks := false }, kinds := [], alts := [], laidByText := true, laidKinds := [.data, .data], laidTests := true, laidLooks := .later }
def ManifestSumsUptoCardSaid : Prop := Claim7.holds Tryd.pinned (.plain (OpenSpec.upto manifestSumsSpec)) manifestSumsUptoCard
end Rows
end Go.Proofs.YtmnlebkpneeblaaDoor
