/-
  DERIVED. GIVEN WITH THE SEED: THE CARDS: each row of YtadpcefdkifagaaDoorRows.lean that lists a variable, with what it lists TIED to the program's text (the seventh form; the later family's looks); each row that meets fmt, with fmt's text TOLD by the authors' own Lean function (tested against real Go, not proved from fmt's source: count such statements apart). THE CARD IS WHAT COUNTS. Prove the row's statement (the work); the ties are given (YtadpcefdkifagaaDoorTie.lean); close each card by the builder's one call (the guide's Derived/Test/ToyasCard.lean, 'card_holds'). Laid BY PROGRAM, IN A SANDBOX (cutbox-door.mjs). By AI agents, Wed Nov 11 2026. No macro, syntax, notation, axiom, sorry.
-/
import Derived.Test.YtadpcefdkifagaaDoorRows
import GoSem.ClaimSeven
namespace Go.Proofs.YtadpcefdkifagaaDoor
namespace Rows

/-- THE TIED CARD OF 'fairleadlaw06.ShaSums'. -/
def shaSumsCard : Claim7 := { stood := { row := shaSumsRow, standIns := [], harness := (true, "5f25ff403666586ea253c9051479b38259828879be450d6181467c29b89ab0a3"), looks := false }, kinds := [], alts := [], laidByText := true, laidKinds := [.data, .data], laidTests := true, laidLooks := .later }
def ShaSumsCardSaid : Prop := Claim7.holds Tryd.pinned (.plain (OpenSpec.ofChange shaSumsSpec)) shaSumsCard

/-- THE TIED CARD OF 'fairleadlaw06.ShaStates'. -/
def shaStatesCard : Claim7 := { stood := { row := shaStatesRow, standIns := [], harness := (true, "5f25ff403666586ea253c9051479b38259828879be450d6181467c29b89ab0a3"), looks := false }, kinds := [], alts := [], laidByText := true, laidKinds := [.data, .data], laidTests := true, laidLooks := .later }
def ShaStatesCardSaid : Prop := Claim7.holds Tryd.pinned (.plain (OpenSpec.ofChange shaStatesSpec)) shaStatesCard

/-- THE TIED CARD OF 'fairleadlaw06.ShaPieces'. -/
def shaPiecesCard : Claim7 := { stood := { row := shaPiecesRow, standIns := [], harness := (true, "5f25ff403666586ea253c9051479b38259828879be450d6181467c29b89ab0a3"), looks := false }, kinds := [], alts := [], laidByText := true, laidKinds := [.data, .data], laidTests := true, laidLooks := .later }
def ShaPiecesCardSaid : Prop := Claim7.holds Tryd.pinned (.plain (OpenSpec.ofChange shaPiecesSpec)) shaPiecesCard

/-- THE TIED CARD OF 'fairleadlaw06.ShaBytes'. -/
def shaBytesCard : Claim7 := { stood := { row := shaBytesRow, standIns := [], harness := (true, "5f25ff403666586ea253c9051479b38259828879be450d6181467c29b89ab0a3"), looks := false }, kinds := [], alts := [], laidByText := true, laidKinds := [.data, .data], laidTests := true, laidLooks := .later }
def ShaBytesCardSaid : Prop := Claim7.holds Tryd.pinned (.plain (OpenSpec.ofChange shaBytesSpec)) shaBytesCard

/-- THE TIED CARD OF 'fairleadlaw06.ShaTwo'. -/
def shaTwoCard : Claim7 := { stood := { row := shaTwoRow, standIns := [], harness := (true, "5f25ff403666586ea253c9051479b38259828879be450d6181467c29b89ab0a3"), looks := false }, kinds := [], alts := [], laidByText := true, laidKinds := [.data, .data], laidTests := true, laidLooks := .later }
def ShaTwoCardSaid : Prop := Claim7.holds Tryd.pinned (.plain (OpenSpec.ofChange shaTwoSpec)) shaTwoCard

/-- THE TIED CARD OF 'fairleadlaw06.ShaZero'. -/
def shaZeroCard : Claim7 := { stood := { row := shaZeroRow, standIns := [], harness := (true, "5f25ff403666586ea253c9051479b38259828879be450d6181467c29b89ab0a3"), looks := false }, kinds := [], alts := [], laidByText := true, laidKinds := [.data, .data], laidTests := true, laidLooks := .later }
def ShaZeroCardSaid : Prop := Claim7.holds Tryd.pinned (.plain (OpenSpec.ofChange shaZeroSpec)) shaZeroCard

/-- THE TIED CARD OF 'fairleadlaw06.ShaNil'. -/
def shaNilCard : Claim7 := { stood := { row := shaNilRow, standIns := [], harness := (true, "5f25ff403666586ea253c9051479b38259828879be450d6181467c29b89ab0a3"), looks := false }, kinds := [], alts := [], laidByText := true, laidKinds := [.data, .data], laidTests := true, laidLooks := .later }
def ShaNilCardSaid : Prop := Claim7.holds Tryd.pinned (.plain (OpenSpec.ofChange shaNilSpec)) shaNilCard

/-- THE TIED CARD OF 'fairleadlaw07.MacSums'. -/
def macSumsCard : Claim7 := { stood := { row := macSumsRow, standIns := [], harness := (true, "5f25ff403666586ea253c9051479b38259828879be450d6181467c29b89ab0a3"), looks := false }, kinds := [], alts := [], laidByText := true, laidKinds := [.data, .data], laidTests := true, laidLooks := .later }
def MacSumsCardSaid : Prop := Claim7.holds Tryd.pinned (.plain (OpenSpec.ofChange macSumsSpec)) macSumsCard

/-- THE TIED CARD OF 'fairleadlaw07.MacWhole'. -/
def macWholeCard : Claim7 := { stood := { row := macWholeRow, standIns := [], harness := (true, "5f25ff403666586ea253c9051479b38259828879be450d6181467c29b89ab0a3"), looks := false }, kinds := [], alts := [], laidByText := true, laidKinds := [.data, .data], laidTests := true, laidLooks := .later }
def MacWholeCardSaid : Prop := Claim7.holds Tryd.pinned (.plain (OpenSpec.ofChange macWholeSpec)) macWholeCard

/-- THE TIED CARD OF 'fairleadlaw07.MacKeys'. -/
def macKeysCard : Claim7 := { stood := { row := macKeysRow, standIns := [], harness := (true, "5f25ff403666586ea253c9051479b38259828879be450d6181467c29b89ab0a3"), looks := false }, kinds := [], alts := [], laidByText := true, laidKinds := [.data, .data], laidTests := true, laidLooks := .later }
def MacKeysCardSaid : Prop := Claim7.holds Tryd.pinned (.plain (OpenSpec.ofChange macKeysSpec)) macKeysCard

/-- THE TIED CARD OF 'fairleadlaw07.MacAlike'. -/
def macAlikeCard : Claim7 := { stood := { row := macAlikeRow, standIns := [], harness := (true, "5f25ff403666586ea253c9051479b38259828879be450d6181467c29b89ab0a3"), looks := false }, kinds := [], alts := [], laidByText := true, laidKinds := [.data, .data], laidTests := true, laidLooks := .later }
def MacAlikeCardSaid : Prop := Claim7.holds Tryd.pinned (.plain (OpenSpec.ofChange macAlikeSpec)) macAlikeCard

/-- THE TIED CARD OF 'fairleadlaw07.MacOnce'. -/
def macOnceCard : Claim7 := { stood := { row := macOnceRow, standIns := [], harness := (true, "5f25ff403666586ea253c9051479b38259828879be450d6181467c29b89ab0a3"), looks := false }, kinds := [], alts := [], laidByText := true, laidKinds := [.data, .data], laidTests := true, laidLooks := .later }
def MacOnceCardSaid : Prop := Claim7.holds Tryd.pinned (.plain (OpenSpec.ofChange macOnceSpec)) macOnceCard

/-- THE SECOND FORM's CARD OF 'fairleadlaw06.ShaSums'. -/
def shaSumsUptoCard : Claim7 := { stood := { row := shaSumsUptoRow, standIns := [], harness := (true, "5f25ff403666586ea253c9051479b38259828879be450d6181467c29b89ab0a3"), looks := false }, kinds := [], alts := [], laidByText := true, laidKinds := [.data, .data], laidTests := true, laidLooks := .later }
def ShaSumsUptoCardSaid : Prop := Claim7.holds Tryd.pinned (.plain (OpenSpec.upto shaSumsSpec)) shaSumsUptoCard

/-- THE SECOND FORM's CARD OF 'fairleadlaw06.ShaStates'. -/
def shaStatesUptoCard : Claim7 := { stood := { row := shaStatesUptoRow, standIns := [], harness := (true, "5f25ff403666586ea253c9051479b38259828879be450d6181467c29b89ab0a3"), looks := false }, kinds := [], alts := [], laidByText := true, laidKinds := [.data, .data], laidTests := true, laidLooks := .later }
def ShaStatesUptoCardSaid : Prop := Claim7.holds Tryd.pinned (.plain (OpenSpec.upto shaStatesSpec)) shaStatesUptoCard

/-- THE SECOND FORM's CARD OF 'fairleadlaw06.ShaPieces'. -/
def shaPiecesUptoCard : Claim7 := { stood := { row := shaPiecesUptoRow, standIns := [], harness := (true, "5f25ff403666586ea253c9051479b38259828879be450d6181467c29b89ab0a3"), looks := false }, kinds := [], alts := [], laidByText := true, laidKinds := [.data, .data], laidTests := true, laidLooks := .later }
def ShaPiecesUptoCardSaid : Prop := Claim7.holds Tryd.pinned (.plain (OpenSpec.upto shaPiecesSpec)) shaPiecesUptoCard

/-- THE SECOND FORM's CARD OF 'fairleadlaw06.ShaBytes'. -/
def shaBytesUptoCard : Claim7 := { stood := { row := shaBytesUptoRow, standIns := [], harness := (true, "5f25ff403666586ea253c9051479b38259828879be450d6181467c29b89ab0a3"), looks := false }, kinds := [], alts := [], laidByText := true, laidKinds := [.data, .data], laidTests := true, laidLooks := .later }
def ShaBytesUptoCardSaid : Prop := Claim7.holds Tryd.pinned (.plain (OpenSpec.upto shaBytesSpec)) shaBytesUptoCard

/-- THE SECOND FORM's CARD OF 'fairleadlaw06.ShaTwo'. -/
def shaTwoUptoCard : Claim7 := { stood := { row := shaTwoUptoRow, standIns := [], harness := (true, "5f25ff403666586ea253c9051479b38259828879be450d6181467c29b89ab0a3"), looks := false }, kinds := [], alts := [], laidByText := true, laidKinds := [.data, .data], laidTests := true, laidLooks := .later }
def ShaTwoUptoCardSaid : Prop := Claim7.holds Tryd.pinned (.plain (OpenSpec.upto shaTwoSpec)) shaTwoUptoCard

/-- THE SECOND FORM's CARD OF 'fairleadlaw06.ShaZero'. -/
def shaZeroUptoCard : Claim7 := { stood := { row := shaZeroUptoRow, standIns := [], harness := (true, "5f25ff403666586ea253c9051479b38259828879be450d6181467c29b89ab0a3"), looks := false }, kinds := [], alts := [], laidByText := true, laidKinds := [.data, .data], laidTests := true, laidLooks := .later }
def ShaZeroUptoCardSaid : Prop := Claim7.holds Tryd.pinned (.plain (OpenSpec.upto shaZeroSpec)) shaZeroUptoCard

/-- THE SECOND FORM's CARD OF 'fairleadlaw06.ShaNil'. -/
def shaNilUptoCard : Claim7 := { stood := { row := shaNilUptoRow, standIns := [], harness := (true, "5f25ff403666586ea253c9051479b38259828879be450d6181467c29b89ab0a3"), looks := false }, kinds := [], alts := [], laidByText := true, laidKinds := [.data, .data], laidTests := true, laidLooks := .later }
def ShaNilUptoCardSaid : Prop := Claim7.holds Tryd.pinned (.plain (OpenSpec.upto shaNilSpec)) shaNilUptoCard

/-- THE SECOND FORM's CARD OF 'fairleadlaw07.MacSums'. -/
def macSumsUptoCard : Claim7 := { stood := { row := macSumsUptoRow, standIns := [], harness := (true, "5f25ff403666586ea253c9051479b38259828879be450d6181467c29b89ab0a3"), looks := false }, kinds := [], alts := [], laidByText := true, laidKinds := [.data, .data], laidTests := true, laidLooks := .later }
def MacSumsUptoCardSaid : Prop := Claim7.holds Tryd.pinned (.plain (OpenSpec.upto macSumsSpec)) macSumsUptoCard

/-- THE SECOND FORM's CARD OF 'fairleadlaw07.MacWhole'. -/
def macWholeUptoCard : Claim7 := { stood := { row := macWholeUptoRow, standIns := [], harness := (true, "5f25ff403666586ea253c9051479b38259828879be450d6181467c29b89ab0a3"), looks := false }, kinds := [], alts := [], laidByText := true, laidKinds := [.data, .data], laidTests := true, laidLooks := .later }
def MacWholeUptoCardSaid : Prop := Claim7.holds Tryd.pinned (.plain (OpenSpec.upto macWholeSpec)) macWholeUptoCard

/-- THE SECOND FORM's CARD OF 'fairleadlaw07.MacKeys'. -/
def macKeysUptoCard : Claim7 := { stood := { row := macKeysUptoRow, standIns := [], harness := (true, "5f25ff403666586ea253c9051479b38259828879be450d6181467c29b89ab0a3"), looks := false }, kinds := [], alts := [], laidByText := true, laidKinds := [.data, .data], laidTests := true, laidLooks := .later }
def MacKeysUptoCardSaid : Prop := Claim7.holds Tryd.pinned (.plain (OpenSpec.upto macKeysSpec)) macKeysUptoCard

/-- THE SECOND FORM's CARD OF 'fairleadlaw07.MacAlike'. -/
def macAlikeUptoCard : Claim7 := { stood := { row := macAlikeUptoRow, standIns := [], harness := (true, "5f25ff403666586ea253c9051479b38259828879be450d6181467c29b89ab0a3"), looks := false }, kinds := [], alts := [], laidByText := true, laidKinds := [.data, .data], laidTests := true, laidLooks := .later }
def MacAlikeUptoCardSaid : Prop := Claim7.holds Tryd.pinned (.plain (OpenSpec.upto macAlikeSpec)) macAlikeUptoCard

/-- THE SECOND FORM's CARD OF 'fairleadlaw07.MacOnce'. -/
def macOnceUptoCard : Claim7 := { stood := { row := macOnceUptoRow, standIns := [], harness := (true, "5f25ff403666586ea253c9051479b38259828879be450d6181467c29b89ab0a3"), looks := false }, kinds := [], alts := [], laidByText := true, laidKinds := [.data, .data], laidTests := true, laidLooks := .later }
def MacOnceUptoCardSaid : Prop := Claim7.holds Tryd.pinned (.plain (OpenSpec.upto macOnceSpec)) macOnceUptoCard
end Rows
end Go.Proofs.YtadpcefdkifagaaDoor
