/-
  DERIVED. GIVEN WITH THE SEED: THE CARDS: each row of YthnaeifkngeenaaDoorRows.lean that lists a variable, with what it lists TIED to the program's text (the seventh form; the later family's looks); each row that meets fmt, with fmt's text TOLD by the authors' own Lean function (tested against real Go, not proved from fmt's source: count such statements apart). THE CARD IS WHAT COUNTS. Prove the row's statement (the work); the ties are given (YthnaeifkngeenaaDoorTie.lean); close each card by the builder's one call (the guide's Derived/Test/ToyasCard.lean, 'card_holds'). Laid BY PROGRAM, IN A SANDBOX (cutbox-door.mjs). By AI agents, Wed Nov 11 2026. No macro, syntax, notation, axiom, sorry.
-/
import Derived.Test.YthnaeifkngeenaaDoorRows
import GoSem.ClaimSeven
namespace Go.Proofs.YthnaeifkngeenaaDoor
namespace Rows

/-- THE TIED CARD OF 'bellarminelaw12.PostNamed'. -/
def postNamedCard : Claim7 := { stood := { row := postNamedRow, standIns := [], harness := (true, "3901621dbbe73689112566924c355ae7d0cc00bd7e049ac0cbc2e43bb62594ff"), looks := false }, kinds := [], alts := [], laidByText := true, laidKinds := [.data, .data], laidTests := true, laidLooks := .later }
def PostNamedCardSaid : Prop := Claim7.holds Tryd.pinned (.plain (OpenSpec.ofChange postNamedSpec)) postNamedCard

/-- THE TIED CARD OF 'bellarminelaw12.PostPacked'. -/
def postPackedCard : Claim7 := { stood := { row := postPackedRow, standIns := [], harness := (true, "3901621dbbe73689112566924c355ae7d0cc00bd7e049ac0cbc2e43bb62594ff"), looks := false }, kinds := [], alts := [], laidByText := true, laidKinds := [.data, .data], laidTests := true, laidLooks := .later }
def PostPackedCardSaid : Prop := Claim7.holds Tryd.pinned (.plain (OpenSpec.ofChange postPackedSpec)) postPackedCard

/-- THE TIED CARD OF 'bellarminelaw12.PostGuarded'. -/
def postGuardedCard : Claim7 := { stood := { row := postGuardedRow, standIns := [], harness := (true, "3901621dbbe73689112566924c355ae7d0cc00bd7e049ac0cbc2e43bb62594ff"), looks := false }, kinds := [], alts := [], laidByText := true, laidKinds := [.data, .data], laidTests := true, laidLooks := .later }
def PostGuardedCardSaid : Prop := Claim7.holds Tryd.pinned (.plain (OpenSpec.ofChange postGuardedSpec)) postGuardedCard

/-- THE TIED CARD OF 'bellarminelaw12.PostOdd'. -/
def postOddCard : Claim7 := { stood := { row := postOddRow, standIns := [], harness := (true, "3901621dbbe73689112566924c355ae7d0cc00bd7e049ac0cbc2e43bb62594ff"), looks := false }, kinds := [], alts := [], laidByText := true, laidKinds := [.data, .data], laidTests := true, laidLooks := .later }
def PostOddCardSaid : Prop := Claim7.holds Tryd.pinned (.plain (OpenSpec.ofChange postOddSpec)) postOddCard

/-- THE TIED CARD OF 'bellarminelaw12.PostCheap'. -/
def postCheapCard : Claim7 := { stood := { row := postCheapRow, standIns := [], harness := (true, "3901621dbbe73689112566924c355ae7d0cc00bd7e049ac0cbc2e43bb62594ff"), looks := false }, kinds := [], alts := [], laidByText := true, laidKinds := [.data, .data], laidTests := true, laidLooks := .later }
def PostCheapCardSaid : Prop := Claim7.holds Tryd.pinned (.plain (OpenSpec.ofChange postCheapSpec)) postCheapCard

/-- THE SECOND FORM's CARD OF 'bellarminelaw12.PostNamed'. -/
def postNamedUptoCard : Claim7 := { stood := { row := postNamedUptoRow, standIns := [], harness := (true, "3901621dbbe73689112566924c355ae7d0cc00bd7e049ac0cbc2e43bb62594ff"), looks := false }, kinds := [], alts := [], laidByText := true, laidKinds := [.data, .data], laidTests := true, laidLooks := .later }
def PostNamedUptoCardSaid : Prop := Claim7.holds Tryd.pinned (.plain (OpenSpec.upto postNamedSpec)) postNamedUptoCard

/-- THE SECOND FORM's CARD OF 'bellarminelaw12.PostPacked'. -/
def postPackedUptoCard : Claim7 := { stood := { row := postPackedUptoRow, standIns := [], harness := (true, "3901621dbbe73689112566924c355ae7d0cc00bd7e049ac0cbc2e43bb62594ff"), looks := false }, kinds := [], alts := [], laidByText := true, laidKinds := [.data, .data], laidTests := true, laidLooks := .later }
def PostPackedUptoCardSaid : Prop := Claim7.holds Tryd.pinned (.plain (OpenSpec.upto postPackedSpec)) postPackedUptoCard

/-- THE SECOND FORM's CARD OF 'bellarminelaw12.PostGuarded'. -/
def postGuardedUptoCard : Claim7 := { stood := { row := postGuardedUptoRow, standIns := [], harness := (true, "3901621dbbe73689112566924c355ae7d0cc00bd7e049ac0cbc2e43bb62594ff"), looks := false }, kinds := [], alts := [], laidByText := true, laidKinds := [.data, .data], laidTests := true, laidLooks := .later }
def PostGuardedUptoCardSaid : Prop := Claim7.holds Tryd.pinned (.plain (OpenSpec.upto postGuardedSpec)) postGuardedUptoCard

/-- THE SECOND FORM's CARD OF 'bellarminelaw12.PostOdd'. -/
def postOddUptoCard : Claim7 := { stood := { row := postOddUptoRow, standIns := [], harness := (true, "3901621dbbe73689112566924c355ae7d0cc00bd7e049ac0cbc2e43bb62594ff"), looks := false }, kinds := [], alts := [], laidByText := true, laidKinds := [.data, .data], laidTests := true, laidLooks := .later }
def PostOddUptoCardSaid : Prop := Claim7.holds Tryd.pinned (.plain (OpenSpec.upto postOddSpec)) postOddUptoCard

/-- THE SECOND FORM's CARD OF 'bellarminelaw12.PostCheap'. -/
def postCheapUptoCard : Claim7 := { stood := { row := postCheapUptoRow, standIns := [], harness := (true, "3901621dbbe73689112566924c355ae7d0cc00bd7e049ac0cbc2e43bb62594ff"), looks := false }, kinds := [], alts := [], laidByText := true, laidKinds := [.data, .data], laidTests := true, laidLooks := .later }
def PostCheapUptoCardSaid : Prop := Claim7.holds Tryd.pinned (.plain (OpenSpec.upto postCheapSpec)) postCheapUptoCard
end Rows
end Go.Proofs.YthnaeifkngeenaaDoor
