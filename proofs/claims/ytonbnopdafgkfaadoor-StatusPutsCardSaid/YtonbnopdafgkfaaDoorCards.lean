/-
  DERIVED. GIVEN WITH THE SEED: THE CARDS: each row of YtonbnopdafgkfaaDoorRows.lean that lists a variable, with what it lists TIED to the program's text (the seventh form; the later family's looks); each row that meets fmt, with fmt's text TOLD by the authors' own Lean function (tested against real Go, not proved from fmt's source: count such statements apart). THE CARD IS WHAT COUNTS. Prove the row's statement (the work); the ties are given (YtonbnopdafgkfaaDoorTie.lean); close each card by the builder's one call (the guide's Derived/Test/ToyasCard.lean, 'card_holds'). Laid BY PROGRAM, IN A SANDBOX (cutbox-door.mjs). By AI agents, Wed Nov 11 2026. No macro, syntax, notation, axiom, sorry.
-/
import Derived.Test.YtonbnopdafgkfaaDoorRows
import GoSem.ClaimSeven
namespace Go.Proofs.YtonbnopdafgkfaaDoor
namespace Rows

/-- THE TIED CARD OF 'countwheellaw23.StatusGets'. -/
def statusGetsCard : Claim7 := { stood := { row := statusGetsRow, standIns := [], harness := (true, "20256f9f45a4e122c4d003ad229467570a002e103049f70c29e205e7f4794b4d"), looks := true }, kinds := [], alts := [], laidByText := true, laidKinds := [.data, .data, .data, .handle], laidTests := true, laidLooks := .later }
def StatusGetsCardSaid : Prop := Claim7.holds Tryd.pinned (.plain (OpenSpec.ofChange statusGetsSpec)) statusGetsCard

/-- THE TIED CARD OF 'countwheellaw23.StatusPuts'. -/
def statusPutsCard : Claim7 := { stood := { row := statusPutsRow, standIns := [], harness := (true, "20256f9f45a4e122c4d003ad229467570a002e103049f70c29e205e7f4794b4d"), looks := true }, kinds := [], alts := [], laidByText := true, laidKinds := [.data, .data, .data, .handle], laidTests := true, laidLooks := .later }
def StatusPutsCardSaid : Prop := Claim7.holds Tryd.pinned (.plain (OpenSpec.ofChange statusPutsSpec)) statusPutsCard

/-- THE SECOND FORM's CARD OF 'countwheellaw23.StatusGets'. -/
def statusGetsUptoCard : Claim7 := { stood := { row := statusGetsUptoRow, standIns := [], harness := (true, "20256f9f45a4e122c4d003ad229467570a002e103049f70c29e205e7f4794b4d"), looks := true }, kinds := [], alts := [], laidByText := true, laidKinds := [.data, .data, .data, .handle], laidTests := true, laidLooks := .later }
def StatusGetsUptoCardSaid : Prop := Claim7.holds Tryd.pinned (.plain (OpenSpec.upto statusGetsSpec)) statusGetsUptoCard

/-- THE SECOND FORM's CARD OF 'countwheellaw23.StatusPuts'. -/
def statusPutsUptoCard : Claim7 := { stood := { row := statusPutsUptoRow, standIns := [], harness := (true, "20256f9f45a4e122c4d003ad229467570a002e103049f70c29e205e7f4794b4d"), looks := true }, kinds := [], alts := [], laidByText := true, laidKinds := [.data, .data, .data, .handle], laidTests := true, laidLooks := .later }
def StatusPutsUptoCardSaid : Prop := Claim7.holds Tryd.pinned (.plain (OpenSpec.upto statusPutsSpec)) statusPutsUptoCard
end Rows
end Go.Proofs.YtonbnopdafgkfaaDoor
