/-
  DERIVED. GIVEN WITH THE SEED: THE CARDS: each row of YtheppipmnfjdcaaDoorRows.lean that lists a variable, with what it lists TIED to the program's text (the seventh form; the later family's looks); each row that meets fmt, with fmt's text TOLD by the authors' own Lean function (tested against real Go, not proved from fmt's source: count such statements apart). THE CARD IS WHAT COUNTS. Prove the row's statement (the work); the ties are given (YtheppipmnfjdcaaDoorTie.lean); close each card by the builder's one call (the guide's Derived/Test/ToyasCard.lean, 'card_holds'). Laid BY PROGRAM, IN A SANDBOX (cutbox-door.mjs). By AI agents, Wed Nov 11 2026. No macro, syntax, notation, axiom, sorry.
-/
import Derived.Test.YtheppipmnfjdcaaDoorRows
import GoSem.ClaimSeven
namespace Go.Proofs.YtheppipmnfjdcaaDoor
namespace Rows

/-- THE TIED CARD OF 'bellarminelaw04.RingHalves'. -/
def ringHalvesCard : Claim7 := { stood := { row := ringHalvesRow, standIns := [], harness := (true, "3526b361ebce7ddb1baf8f78d492afcfccea09c757237024dd67455109460362"), looks := false }, kinds := [], alts := [], laidByText := true, laidKinds := [.data, .data], laidTests := true, laidLooks := .later }
def RingHalvesCardSaid : Prop := Claim7.holds Tryd.pinned (.plain (OpenSpec.ofChange ringHalvesSpec)) ringHalvesCard

/-- THE TIED CARD OF 'bellarminelaw04.RingPacked'. -/
def ringPackedCard : Claim7 := { stood := { row := ringPackedRow, standIns := [], harness := (true, "3526b361ebce7ddb1baf8f78d492afcfccea09c757237024dd67455109460362"), looks := false }, kinds := [], alts := [], laidByText := true, laidKinds := [.data, .data], laidTests := true, laidLooks := .later }
def RingPackedCardSaid : Prop := Claim7.holds Tryd.pinned (.plain (OpenSpec.ofChange ringPackedSpec)) ringPackedCard

/-- THE TIED CARD OF 'bellarminelaw04.RingBest'. -/
def ringBestCard : Claim7 := { stood := { row := ringBestRow, standIns := [], harness := (true, "3526b361ebce7ddb1baf8f78d492afcfccea09c757237024dd67455109460362"), looks := false }, kinds := [], alts := [], laidByText := true, laidKinds := [.data, .data], laidTests := true, laidLooks := .later }
def RingBestCardSaid : Prop := Claim7.holds Tryd.pinned (.plain (OpenSpec.ofChange ringBestSpec)) ringBestCard

/-- THE TIED CARD OF 'bellarminelaw04.RingStruck'. -/
def ringStruckCard : Claim7 := { stood := { row := ringStruckRow, standIns := [], harness := (true, "3526b361ebce7ddb1baf8f78d492afcfccea09c757237024dd67455109460362"), looks := false }, kinds := [], alts := [], laidByText := true, laidKinds := [.data, .data], laidTests := true, laidLooks := .later }
def RingStruckCardSaid : Prop := Claim7.holds Tryd.pinned (.plain (OpenSpec.ofChange ringStruckSpec)) ringStruckCard

/-- THE SECOND FORM's CARD OF 'bellarminelaw04.RingHalves'. -/
def ringHalvesUptoCard : Claim7 := { stood := { row := ringHalvesUptoRow, standIns := [], harness := (true, "3526b361ebce7ddb1baf8f78d492afcfccea09c757237024dd67455109460362"), looks := false }, kinds := [], alts := [], laidByText := true, laidKinds := [.data, .data], laidTests := true, laidLooks := .later }
def RingHalvesUptoCardSaid : Prop := Claim7.holds Tryd.pinned (.plain (OpenSpec.upto ringHalvesSpec)) ringHalvesUptoCard

/-- THE SECOND FORM's CARD OF 'bellarminelaw04.RingPacked'. -/
def ringPackedUptoCard : Claim7 := { stood := { row := ringPackedUptoRow, standIns := [], harness := (true, "3526b361ebce7ddb1baf8f78d492afcfccea09c757237024dd67455109460362"), looks := false }, kinds := [], alts := [], laidByText := true, laidKinds := [.data, .data], laidTests := true, laidLooks := .later }
def RingPackedUptoCardSaid : Prop := Claim7.holds Tryd.pinned (.plain (OpenSpec.upto ringPackedSpec)) ringPackedUptoCard

/-- THE SECOND FORM's CARD OF 'bellarminelaw04.RingBest'. -/
def ringBestUptoCard : Claim7 := { stood := { row := ringBestUptoRow, standIns := [], harness := (true, "3526b361ebce7ddb1baf8f78d492afcfccea09c757237024dd67455109460362"), looks := false }, kinds := [], alts := [], laidByText := true, laidKinds := [.data, .data], laidTests := true, laidLooks := .later }
def RingBestUptoCardSaid : Prop := Claim7.holds Tryd.pinned (.plain (OpenSpec.upto ringBestSpec)) ringBestUptoCard

/-- THE SECOND FORM's CARD OF 'bellarminelaw04.RingStruck'. -/
def ringStruckUptoCard : Claim7 := { stood := { row := ringStruckUptoRow, standIns := [], harness := (true, "3526b361ebce7ddb1baf8f78d492afcfccea09c757237024dd67455109460362"), looks := false }, kinds := [], alts := [], laidByText := true, laidKinds := [.data, .data], laidTests := true, laidLooks := .later }
def RingStruckUptoCardSaid : Prop := Claim7.holds Tryd.pinned (.plain (OpenSpec.upto ringStruckSpec)) ringStruckUptoCard
end Rows
end Go.Proofs.YtheppipmnfjdcaaDoor
