/-
  DERIVED. GIVEN WITH THE SEED: THE CARDS: each row of YtlbjlopljlblpaaDoorRows.lean that lists a variable, with what it lists TIED to the program's text (the seventh form; the later family's looks); each row that meets fmt, with fmt's text TOLD by the authors' own Lean function (tested against real Go, not proved from fmt's source: count such statements apart). THE CARD IS WHAT COUNTS. Prove the row's statement (the work); the ties are given (YtlbjlopljlblpaaDoorTie.lean); close each card by the builder's one call (the guide's Derived/Test/ToyasCard.lean, 'card_holds'). Laid BY PROGRAM, IN A SANDBOX (cutbox-door.mjs). By AI agents, Wed Nov 11 2026. No macro, syntax, notation, axiom, sorry.
-/
import Derived.Test.YtlbjlopljlblpaaDoorRows
import GoSem.ClaimSeven
namespace Go.Proofs.YtlbjlopljlblpaaDoor
namespace Rows

/-- THE TIED CARD OF 'escutcheonlaw02.PathOnce'. -/
def pathOnceCard : Claim7 := { stood := { row := pathOnceRow, standIns := [], harness := (true, "f2d1278897321140b42ee0841c74cc624fbe39b859a8df8ac6fe11233dedbf62"), looks := false }, kinds := [], alts := [], laidByText := true, laidKinds := [.data, .data, .data], laidTests := true, laidLooks := .later }
def PathOnceCardSaid : Prop := Claim7.holds Tryd.pinned (.plain (OpenSpec.ofChange pathOnceSpec)) pathOnceCard

/-- THE TIED CARD OF 'escutcheonlaw02.PathTexts'. -/
def pathTextsCard : Claim7 := { stood := { row := pathTextsRow, standIns := [], harness := (true, "f2d1278897321140b42ee0841c74cc624fbe39b859a8df8ac6fe11233dedbf62"), looks := false }, kinds := [], alts := [], laidByText := true, laidKinds := [.data, .data, .data], laidTests := true, laidLooks := .later }
def PathTextsCardSaid : Prop := Claim7.holds Tryd.pinned (.plain (OpenSpec.ofChange pathTextsSpec)) pathTextsCard

/-- THE TIED CARD OF 'escutcheonlaw02.PathTree'. -/
def pathTreeCard : Claim7 := { stood := { row := pathTreeRow, standIns := [], harness := (true, "f2d1278897321140b42ee0841c74cc624fbe39b859a8df8ac6fe11233dedbf62"), looks := false }, kinds := [], alts := [], laidByText := true, laidKinds := [.data, .data, .data], laidTests := true, laidLooks := .later }
def PathTreeCardSaid : Prop := Claim7.holds Tryd.pinned (.plain (OpenSpec.ofChange pathTreeSpec)) pathTreeCard

/-- THE TIED CARD OF 'escutcheonlaw02.PathKids'. -/
def pathKidsCard : Claim7 := { stood := { row := pathKidsRow, standIns := [], harness := (true, "f2d1278897321140b42ee0841c74cc624fbe39b859a8df8ac6fe11233dedbf62"), looks := false }, kinds := [], alts := [], laidByText := true, laidKinds := [.data, .data, .data], laidTests := true, laidLooks := .later }
def PathKidsCardSaid : Prop := Claim7.holds Tryd.pinned (.plain (OpenSpec.ofChange pathKidsSpec)) pathKidsCard

/-- THE TIED CARD OF 'escutcheonlaw02.PathOrder'. -/
def pathOrderCard : Claim7 := { stood := { row := pathOrderRow, standIns := [], harness := (true, "f2d1278897321140b42ee0841c74cc624fbe39b859a8df8ac6fe11233dedbf62"), looks := false }, kinds := [], alts := [], laidByText := true, laidKinds := [.data, .data, .data], laidTests := true, laidLooks := .later }
def PathOrderCardSaid : Prop := Claim7.holds Tryd.pinned (.plain (OpenSpec.ofChange pathOrderSpec)) pathOrderCard

/-- THE SECOND FORM's CARD OF 'escutcheonlaw02.PathOnce'. -/
def pathOnceUptoCard : Claim7 := { stood := { row := pathOnceUptoRow, standIns := [], harness := (true, "f2d1278897321140b42ee0841c74cc624fbe39b859a8df8ac6fe11233dedbf62"), looks := false }, kinds := [], alts := [], laidByText := true, laidKinds := [.data, .data, .data], laidTests := true, laidLooks := .later }
def PathOnceUptoCardSaid : Prop := Claim7.holds Tryd.pinned (.plain (OpenSpec.upto pathOnceSpec)) pathOnceUptoCard

/-- THE SECOND FORM's CARD OF 'escutcheonlaw02.PathTexts'. -/
def pathTextsUptoCard : Claim7 := { stood := { row := pathTextsUptoRow, standIns := [], harness := (true, "f2d1278897321140b42ee0841c74cc624fbe39b859a8df8ac6fe11233dedbf62"), looks := false }, kinds := [], alts := [], laidByText := true, laidKinds := [.data, .data, .data], laidTests := true, laidLooks := .later }
def PathTextsUptoCardSaid : Prop := Claim7.holds Tryd.pinned (.plain (OpenSpec.upto pathTextsSpec)) pathTextsUptoCard

/-- THE SECOND FORM's CARD OF 'escutcheonlaw02.PathTree'. -/
def pathTreeUptoCard : Claim7 := { stood := { row := pathTreeUptoRow, standIns := [], harness := (true, "f2d1278897321140b42ee0841c74cc624fbe39b859a8df8ac6fe11233dedbf62"), looks := false }, kinds := [], alts := [], laidByText := true, laidKinds := [.data, .data, .data], laidTests := true, laidLooks := .later }
def PathTreeUptoCardSaid : Prop := Claim7.holds Tryd.pinned (.plain (OpenSpec.upto pathTreeSpec)) pathTreeUptoCard

/-- THE SECOND FORM's CARD OF 'escutcheonlaw02.PathKids'. -/
def pathKidsUptoCard : Claim7 := { stood := { row := pathKidsUptoRow, standIns := [], harness := (true, "f2d1278897321140b42ee0841c74cc624fbe39b859a8df8ac6fe11233dedbf62"), looks := false }, kinds := [], alts := [], laidByText := true, laidKinds := [.data, .data, .data], laidTests := true, laidLooks := .later }
def PathKidsUptoCardSaid : Prop := Claim7.holds Tryd.pinned (.plain (OpenSpec.upto pathKidsSpec)) pathKidsUptoCard

/-- THE SECOND FORM's CARD OF 'escutcheonlaw02.PathOrder'. -/
def pathOrderUptoCard : Claim7 := { stood := { row := pathOrderUptoRow, standIns := [], harness := (true, "f2d1278897321140b42ee0841c74cc624fbe39b859a8df8ac6fe11233dedbf62"), looks := false }, kinds := [], alts := [], laidByText := true, laidKinds := [.data, .data, .data], laidTests := true, laidLooks := .later }
def PathOrderUptoCardSaid : Prop := Claim7.holds Tryd.pinned (.plain (OpenSpec.upto pathOrderSpec)) pathOrderUptoCard
end Rows
end Go.Proofs.YtlbjlopljlblpaaDoor
