/-
  DERIVED. GIVEN WITH THE SEED: THE CARDS: each row of YtbggeoinipbejaaDoorRows.lean that lists a variable, with what it lists TIED to the program's text (the seventh form; the later family's looks); each row that meets fmt, with fmt's text TOLD by the authors' own Lean function (tested against real Go, not proved from fmt's source: count such statements apart). THE CARD IS WHAT COUNTS. Prove the row's statement (the work); the ties are given (YtbggeoinipbejaaDoorTie.lean); close each card by the builder's one call (the guide's Derived/Test/ToyasCard.lean, 'card_holds'). Laid BY PROGRAM, IN A SANDBOX (cutbox-door.mjs). By AI agents, Wed Nov 11 2026. No macro, syntax, notation, axiom, sorry.
-/
import Derived.Test.YtbggeoinipbejaaDoorRows
import GoSem.ClaimSeven
namespace Go.Proofs.YtbggeoinipbejaaDoor
namespace Rows

/-- THE TIED CARD OF 'escutcheonlaw36.TraceWords'. -/
def traceWordsCard : Claim7 := { stood := { row := traceWordsRow, standIns := [], harness := (true, "90a72604882c6214a1299c0614e0087a040cb63111aa979797c551b3684e5b87"), looks := false }, kinds := [], alts := [], laidByText := true, laidKinds := [.data, .data, .data], laidTests := true, laidLooks := .later }
def TraceWordsCardSaid : Prop := Claim7.holds Tryd.pinned (.plain (OpenSpec.ofChange traceWordsSpec)) traceWordsCard

/-- THE SECOND FORM's CARD OF 'escutcheonlaw36.TraceWords'. -/
def traceWordsUptoCard : Claim7 := { stood := { row := traceWordsUptoRow, standIns := [], harness := (true, "90a72604882c6214a1299c0614e0087a040cb63111aa979797c551b3684e5b87"), looks := false }, kinds := [], alts := [], laidByText := true, laidKinds := [.data, .data, .data], laidTests := true, laidLooks := .later }
def TraceWordsUptoCardSaid : Prop := Claim7.holds Tryd.pinned (.plain (OpenSpec.upto traceWordsSpec)) traceWordsUptoCard
end Rows
end Go.Proofs.YtbggeoinipbejaaDoor
