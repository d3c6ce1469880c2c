/-
  DERIVED. GIVEN WITH THE SEED: THE CARDS: each row of YtgiagcopbibneaaDoorRows.lean that lists a variable, with what it lists TIED to the program's text (the seventh form; the later family's looks); each row that meets fmt, with fmt's text TOLD by the authors' own Lean function (tested against real Go, not proved from fmt's source: count such statements apart). THE CARD IS WHAT COUNTS. Prove the row's statement (the work); the ties are given (YtgiagcopbibneaaDoorTie.lean); close each card by the builder's one call (the guide's Derived/Test/ToyasCard.lean, 'card_holds'). Laid BY PROGRAM, IN A SANDBOX (cutbox-door.mjs). By AI agents, Wed Nov 11 2026. No macro, syntax, notation, axiom, sorry.
-/
import Derived.Test.YtgiagcopbibneaaDoorRows
import GoSem.ClaimSeven
namespace Go.Proofs.YtgiagcopbibneaaDoor
namespace Rows

/-- THE TIED CARD OF 'fairleadlaw25.AssocGives'. -/
def assocGivesCard : Claim7 := { stood := { row := assocGivesRow, standIns := [], harness := (true, "b657b7622583fa825dd28ed5cbb5f394fa85fb1c5cf75996cac7a1abf1890708"), looks := false }, kinds := [], alts := [], laidByText := true, laidKinds := [.data, .data], laidTests := true, laidLooks := .later }
def AssocGivesCardSaid : Prop := Claim7.holds Tryd.pinned (.plain (OpenSpec.ofChange assocGivesSpec)) assocGivesCard

/-- THE TIED CARD OF 'fairleadlaw25.AssocNil'. -/
def assocNilCard : Claim7 := { stood := { row := assocNilRow, standIns := [], harness := (true, "b657b7622583fa825dd28ed5cbb5f394fa85fb1c5cf75996cac7a1abf1890708"), looks := false }, kinds := [], alts := [], laidByText := true, laidKinds := [.data, .data], laidTests := true, laidLooks := .later }
def AssocNilCardSaid : Prop := Claim7.holds Tryd.pinned (.plain (OpenSpec.ofChange assocNilSpec)) assocNilCard

/-- THE TIED CARD OF 'fairleadlaw11.CookieWrites'. -/
def cookieWritesCard : Claim7 := { stood := { row := cookieWritesRow, standIns := [], harness := (true, "b657b7622583fa825dd28ed5cbb5f394fa85fb1c5cf75996cac7a1abf1890708"), looks := false }, kinds := [], alts := [], laidByText := true, laidKinds := [.data, .data], laidTests := true, laidLooks := .later }
def CookieWritesCardSaid : Prop := Claim7.holds Tryd.pinned (.plain (OpenSpec.ofChange cookieWritesSpec)) cookieWritesCard

/-- THE TIED CARD OF 'fairleadlaw11.CookieReads'. -/
def cookieReadsCard : Claim7 := { stood := { row := cookieReadsRow, standIns := [], harness := (true, "b657b7622583fa825dd28ed5cbb5f394fa85fb1c5cf75996cac7a1abf1890708"), looks := false }, kinds := [], alts := [], laidByText := true, laidKinds := [.data, .data], laidTests := true, laidLooks := .later }
def CookieReadsCardSaid : Prop := Claim7.holds Tryd.pinned (.plain (OpenSpec.ofChange cookieReadsSpec)) cookieReadsCard

/-- THE TIED CARD OF 'fairleadlaw11.CookieBack'. -/
def cookieBackCard : Claim7 := { stood := { row := cookieBackRow, standIns := [], harness := (true, "b657b7622583fa825dd28ed5cbb5f394fa85fb1c5cf75996cac7a1abf1890708"), looks := false }, kinds := [], alts := [], laidByText := true, laidKinds := [.data, .data], laidTests := true, laidLooks := .later }
def CookieBackCardSaid : Prop := Claim7.holds Tryd.pinned (.plain (OpenSpec.ofChange cookieBackSpec)) cookieBackCard

/-- THE TIED CARD OF 'fairleadlaw11.CookieFields'. -/
def cookieFieldsCard : Claim7 := { stood := { row := cookieFieldsRow, standIns := [], harness := (true, "b657b7622583fa825dd28ed5cbb5f394fa85fb1c5cf75996cac7a1abf1890708"), looks := false }, kinds := [], alts := [], laidByText := true, laidKinds := [.data, .data], laidTests := true, laidLooks := .later }
def CookieFieldsCardSaid : Prop := Claim7.holds Tryd.pinned (.plain (OpenSpec.ofChange cookieFieldsSpec)) cookieFieldsCard

/-- THE TIED CARD OF 'fairleadlaw11.CookieFresh'. -/
def cookieFreshCard : Claim7 := { stood := { row := cookieFreshRow, standIns := [], harness := (true, "b657b7622583fa825dd28ed5cbb5f394fa85fb1c5cf75996cac7a1abf1890708"), looks := false }, kinds := [], alts := [], laidByText := true, laidKinds := [.data, .data], laidTests := true, laidLooks := .later }
def CookieFreshCardSaid : Prop := Claim7.holds Tryd.pinned (.plain (OpenSpec.ofChange cookieFreshSpec)) cookieFreshCard

/-- THE TIED CARD OF 'fairleadlaw11.CookieDerives'. -/
def cookieDerivesCard : Claim7 := { stood := { row := cookieDerivesRow, standIns := [], harness := (true, "b657b7622583fa825dd28ed5cbb5f394fa85fb1c5cf75996cac7a1abf1890708"), looks := false }, kinds := [], alts := [], laidByText := true, laidKinds := [.data, .data], laidTests := true, laidLooks := .later }
def CookieDerivesCardSaid : Prop := Claim7.holds Tryd.pinned (.plain (OpenSpec.ofChange cookieDerivesSpec)) cookieDerivesCard

/-- THE TIED CARD OF 'fairleadlaw25.AssocParts'. -/
def assocPartsCard : Claim7 := { stood := { row := assocPartsRow, standIns := [], harness := (true, "b657b7622583fa825dd28ed5cbb5f394fa85fb1c5cf75996cac7a1abf1890708"), looks := false }, kinds := [], alts := [], laidByText := true, laidKinds := [.data, .data], laidTests := true, laidLooks := .later }
def AssocPartsCardSaid : Prop := Claim7.holds Tryd.pinned (.plain (OpenSpec.ofChange assocPartsSpec)) assocPartsCard

/-- THE TIED CARD OF 'fairleadlaw25.AssocTags'. -/
def assocTagsCard : Claim7 := { stood := { row := assocTagsRow, standIns := [], harness := (true, "b657b7622583fa825dd28ed5cbb5f394fa85fb1c5cf75996cac7a1abf1890708"), looks := false }, kinds := [], alts := [], laidByText := true, laidKinds := [.data, .data], laidTests := true, laidLooks := .later }
def AssocTagsCardSaid : Prop := Claim7.holds Tryd.pinned (.plain (OpenSpec.ofChange assocTagsSpec)) assocTagsCard

/-- THE SECOND FORM's CARD OF 'fairleadlaw25.AssocGives'. -/
def assocGivesUptoCard : Claim7 := { stood := { row := assocGivesUptoRow, standIns := [], harness := (true, "b657b7622583fa825dd28ed5cbb5f394fa85fb1c5cf75996cac7a1abf1890708"), looks := false }, kinds := [], alts := [], laidByText := true, laidKinds := [.data, .data], laidTests := true, laidLooks := .later }
def AssocGivesUptoCardSaid : Prop := Claim7.holds Tryd.pinned (.plain (OpenSpec.upto assocGivesSpec)) assocGivesUptoCard

/-- THE SECOND FORM's CARD OF 'fairleadlaw25.AssocNil'. -/
def assocNilUptoCard : Claim7 := { stood := { row := assocNilUptoRow, standIns := [], harness := (true, "b657b7622583fa825dd28ed5cbb5f394fa85fb1c5cf75996cac7a1abf1890708"), looks := false }, kinds := [], alts := [], laidByText := true, laidKinds := [.data, .data], laidTests := true, laidLooks := .later }
def AssocNilUptoCardSaid : Prop := Claim7.holds Tryd.pinned (.plain (OpenSpec.upto assocNilSpec)) assocNilUptoCard

/-- THE SECOND FORM's CARD OF 'fairleadlaw11.CookieWrites'. -/
def cookieWritesUptoCard : Claim7 := { stood := { row := cookieWritesUptoRow, standIns := [], harness := (true, "b657b7622583fa825dd28ed5cbb5f394fa85fb1c5cf75996cac7a1abf1890708"), looks := false }, kinds := [], alts := [], laidByText := true, laidKinds := [.data, .data], laidTests := true, laidLooks := .later }
def CookieWritesUptoCardSaid : Prop := Claim7.holds Tryd.pinned (.plain (OpenSpec.upto cookieWritesSpec)) cookieWritesUptoCard

/-- THE SECOND FORM's CARD OF 'fairleadlaw11.CookieReads'. -/
def cookieReadsUptoCard : Claim7 := { stood := { row := cookieReadsUptoRow, standIns := [], harness := (true, "b657b7622583fa825dd28ed5cbb5f394fa85fb1c5cf75996cac7a1abf1890708"), looks := false }, kinds := [], alts := [], laidByText := true, laidKinds := [.data, .data], laidTests := true, laidLooks := .later }
def CookieReadsUptoCardSaid : Prop := Claim7.holds Tryd.pinned (.plain (OpenSpec.upto cookieReadsSpec)) cookieReadsUptoCard

/-- THE SECOND FORM's CARD OF 'fairleadlaw11.CookieBack'. -/
def cookieBackUptoCard : Claim7 := { stood := { row := cookieBackUptoRow, standIns := [], harness := (true, "b657b7622583fa825dd28ed5cbb5f394fa85fb1c5cf75996cac7a1abf1890708"), looks := false }, kinds := [], alts := [], laidByText := true, laidKinds := [.data, .data], laidTests := true, laidLooks := .later }
def CookieBackUptoCardSaid : Prop := Claim7.holds Tryd.pinned (.plain (OpenSpec.upto cookieBackSpec)) cookieBackUptoCard

/-- THE SECOND FORM's CARD OF 'fairleadlaw11.CookieFields'. -/
def cookieFieldsUptoCard : Claim7 := { stood := { row := cookieFieldsUptoRow, standIns := [], harness := (true, "b657b7622583fa825dd28ed5cbb5f394fa85fb1c5cf75996cac7a1abf1890708"), looks := false }, kinds := [], alts := [], laidByText := true, laidKinds := [.data, .data], laidTests := true, laidLooks := .later }
def CookieFieldsUptoCardSaid : Prop := Claim7.holds Tryd.pinned (.plain (OpenSpec.upto cookieFieldsSpec)) cookieFieldsUptoCard

/-- THE SECOND FORM's CARD OF 'fairleadlaw11.CookieFresh'. -/
def cookieFreshUptoCard : Claim7 := { stood := { row := cookieFreshUptoRow, standIns := [], harness := (true, "b657b7622583fa825dd28ed5cbb5f394fa85fb1c5cf75996cac7a1abf1890708"), looks := false }, kinds := [], alts := [], laidByText := true, laidKinds := [.data, .data], laidTests := true, laidLooks := .later }
def CookieFreshUptoCardSaid : Prop := Claim7.holds Tryd.pinned (.plain (OpenSpec.upto cookieFreshSpec)) cookieFreshUptoCard

/-- THE SECOND FORM's CARD OF 'fairleadlaw11.CookieDerives'. -/
def cookieDerivesUptoCard : Claim7 := { stood := { row := cookieDerivesUptoRow, standIns := [], harness := (true, "b657b7622583fa825dd28ed5cbb5f394fa85fb1c5cf75996cac7a1abf1890708"), looks := false }, kinds := [], alts := [], laidByText := true, laidKinds := [.data, .data], laidTests := true, laidLooks := .later }
def CookieDerivesUptoCardSaid : Prop := Claim7.holds Tryd.pinned (.plain (OpenSpec.upto cookieDerivesSpec)) cookieDerivesUptoCard

/-- THE SECOND FORM's CARD OF 'fairleadlaw25.AssocParts'. -/
def assocPartsUptoCard : Claim7 := { stood := { row := assocPartsUptoRow, standIns := [], harness := (true, "b657b7622583fa825dd28ed5cbb5f394fa85fb1c5cf75996cac7a1abf1890708"), looks := false }, kinds := [], alts := [], laidByText := true, laidKinds := [.data, .data], laidTests := true, laidLooks := .later }
def AssocPartsUptoCardSaid : Prop := Claim7.holds Tryd.pinned (.plain (OpenSpec.upto assocPartsSpec)) assocPartsUptoCard

/-- THE SECOND FORM's CARD OF 'fairleadlaw25.AssocTags'. -/
def assocTagsUptoCard : Claim7 := { stood := { row := assocTagsUptoRow, standIns := [], harness := (true, "b657b7622583fa825dd28ed5cbb5f394fa85fb1c5cf75996cac7a1abf1890708"), looks := false }, kinds := [], alts := [], laidByText := true, laidKinds := [.data, .data], laidTests := true, laidLooks := .later }
def AssocTagsUptoCardSaid : Prop := Claim7.holds Tryd.pinned (.plain (OpenSpec.upto assocTagsSpec)) assocTagsUptoCard
end Rows
end Go.Proofs.YtgiagcopbibneaaDoor
