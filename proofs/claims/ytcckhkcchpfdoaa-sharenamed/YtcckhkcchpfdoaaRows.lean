/-
  No cell of these rows narrows 'for every input' (looked for: loops, veiled, ifaces, maps, wideKeys, modest, calm, conditions, laid).
  DERIVED. THE GIVEN ROWS OF THIS SEAT. 14 by the template 'for every input the law returns true; each argument reads behind the call as it read before'; 0 by the template 'total and deterministic' (their statements: YtcckhkcchpfdoaaTotals.lean).
  GIVEN WITH THE SEED: the statements are not yours to turn. If you find one false, say at which input.
  Laid BY PROGRAM, IN A SANDBOX (cutbox-rows.mjs): the forced cells as the released guide's own fill.sh prints them over the translation 6889a980acdd64ac… (all of the seat's roots in one cut). By AI agents, Wed Nov 11 2026. No macro, syntax, notation, axiom, sorry.
-/
import Derived.Test.YtcckhkcchpfdoaaChecked
import GoSem.Claim
import GoSem.ClaimJoined
import GoSem.ClaimMapViews
import Derived.JoinedTies
import Derived.KernelRfl
namespace Go.Proofs.Ytcckhkcchpfdoaa
/- THE CELL 'sum', in the pinned program and in every row, IS THE sha256 OF THE DUMP (.gsa) THAT YtcckhkcchpfdoaaProg.lean LOADS. Nothing in Lean hashes anything: it is a label: what it is worth is what the hold of that sum in a sandbox is worth. -/
noncomputable def Try.pinned : Pinned := { name := "ytcckhkcchpfdoaa", sum := "6889a980acdd64ac24f77d9b405bca1a85c2c94f074e44dd715f644b75075946", checked := Try.checked }
namespace Rows
def none {H : Type} : Left H := { results := [], args := [] }

/-- 'bellarminelaw07.ShareWorths': WHATEVER THE INPUT: true; the input reads as it did. -/
def shareWorthsSpec : ChangeSpec := { name := "shareWorths", fn := fun _ => fun
  | [d1, d2] => { results := [.lit (.bool true)], args := [d1, d2] }
  | _ => none }
def shareWorthsRow : OpenClaim := { program := "ytcckhkcchpfdoaa", sum := "6889a980acdd64ac24f77d9b405bca1a85c2c94f074e44dd715f644b75075946", func := "bellarmine/bellarminelaw07.ShareWorths", spec := "shareWorths", unfollowed := true, recurses := true, apart := false }
def ShareWorthsSaid : Prop := shareWorthsRow.holds Try.pinned (OpenSpec.ofChange shareWorthsSpec)

/-- ITS FALSE NEIGHBOUR: 'it returns false'. Refute it at one input. -/
def shareWorthsWrong : ChangeSpec := { name := "shareWorths", fn := fun _ => fun
  | [d1, d2] => { results := [.lit (.bool false)], args := [d1, d2] }
  | _ => none }
def ShareWorthsWrongFalsely : Prop := shareWorthsRow.holds Try.pinned (OpenSpec.ofChange shareWorthsWrong)

/-- 'bellarminelaw07.ShareWhys': WHATEVER THE INPUT: true; the input reads as it did. -/
def shareWhysSpec : ChangeSpec := { name := "shareWhys", fn := fun _ => fun
  | [d1, d2, d3, d4] => { results := [.lit (.bool true)], args := [d1, d2, d3, d4] }
  | _ => none }
def shareWhysRow : OpenClaim := { program := "ytcckhkcchpfdoaa", sum := "6889a980acdd64ac24f77d9b405bca1a85c2c94f074e44dd715f644b75075946", func := "bellarmine/bellarminelaw07.ShareWhys", spec := "shareWhys", unfollowed := true, recurses := true, apart := false }
def ShareWhysSaid : Prop := shareWhysRow.holds Try.pinned (OpenSpec.ofChange shareWhysSpec)

/-- ITS FALSE NEIGHBOUR: 'it returns false'. Refute it at one input. -/
def shareWhysWrong : ChangeSpec := { name := "shareWhys", fn := fun _ => fun
  | [d1, d2, d3, d4] => { results := [.lit (.bool false)], args := [d1, d2, d3, d4] }
  | _ => none }
def ShareWhysWrongFalsely : Prop := shareWhysRow.holds Try.pinned (OpenSpec.ofChange shareWhysWrong)

/-- 'bellarminelaw07.ShareGives': WHATEVER THE INPUT: true; the input reads as it did. -/
def shareGivesSpec : ChangeSpec := { name := "shareGives", fn := fun _ => fun
  | [d1, d2] => { results := [.lit (.bool true)], args := [d1, d2] }
  | _ => none }
def shareGivesRow : OpenClaim := { program := "ytcckhkcchpfdoaa", sum := "6889a980acdd64ac24f77d9b405bca1a85c2c94f074e44dd715f644b75075946", func := "bellarmine/bellarminelaw07.ShareGives", spec := "shareGives", unfollowed := true, recurses := true, apart := false }
def ShareGivesSaid : Prop := shareGivesRow.holds Try.pinned (OpenSpec.ofChange shareGivesSpec)

/-- ITS FALSE NEIGHBOUR: 'it returns false'. Refute it at one input. -/
def shareGivesWrong : ChangeSpec := { name := "shareGives", fn := fun _ => fun
  | [d1, d2] => { results := [.lit (.bool false)], args := [d1, d2] }
  | _ => none }
def ShareGivesWrongFalsely : Prop := shareGivesRow.holds Try.pinned (OpenSpec.ofChange shareGivesWrong)

/-- 'bellarminelaw07.ShareFinds': WHATEVER THE INPUT: true; the input reads as it did. -/
def shareFindsSpec : ChangeSpec := { name := "shareFinds", fn := fun _ => fun
  | [d1, d2] => { results := [.lit (.bool true)], args := [d1, d2] }
  | _ => none }
def shareFindsRow : OpenClaim := { program := "ytcckhkcchpfdoaa", sum := "6889a980acdd64ac24f77d9b405bca1a85c2c94f074e44dd715f644b75075946", func := "bellarmine/bellarminelaw07.ShareFinds", spec := "shareFinds", unfollowed := true, recurses := true, apart := false }
def ShareFindsSaid : Prop := shareFindsRow.holds Try.pinned (OpenSpec.ofChange shareFindsSpec)

/-- ITS FALSE NEIGHBOUR: 'it returns false'. Refute it at one input. -/
def shareFindsWrong : ChangeSpec := { name := "shareFinds", fn := fun _ => fun
  | [d1, d2] => { results := [.lit (.bool false)], args := [d1, d2] }
  | _ => none }
def ShareFindsWrongFalsely : Prop := shareFindsRow.holds Try.pinned (OpenSpec.ofChange shareFindsWrong)

/-- 'bellarminelaw07.ShareRings': WHATEVER THE INPUT: true; the input reads as it did. -/
def shareRingsSpec : ChangeSpec := { name := "shareRings", fn := fun _ => fun
  | [d] => { results := [.lit (.bool true)], args := [d] }
  | _ => none }
def shareRingsRow : OpenClaim := { program := "ytcckhkcchpfdoaa", sum := "6889a980acdd64ac24f77d9b405bca1a85c2c94f074e44dd715f644b75075946", func := "bellarmine/bellarminelaw07.ShareRings", spec := "shareRings", unfollowed := true, recurses := true, apart := false }
def ShareRingsSaid : Prop := shareRingsRow.holds Try.pinned (OpenSpec.ofChange shareRingsSpec)

/-- ITS FALSE NEIGHBOUR: 'it returns false'. Refute it at one input. -/
def shareRingsWrong : ChangeSpec := { name := "shareRings", fn := fun _ => fun
  | [d] => { results := [.lit (.bool false)], args := [d] }
  | _ => none }
def ShareRingsWrongFalsely : Prop := shareRingsRow.holds Try.pinned (OpenSpec.ofChange shareRingsWrong)

/-- 'bellarminelaw07.ShareMost': WHATEVER THE INPUT: true; the input reads as it did. -/
def shareMostSpec : ChangeSpec := { name := "shareMost", fn := fun _ => fun
  | [d] => { results := [.lit (.bool true)], args := [d] }
  | _ => none }
def shareMostRow : OpenClaim := { program := "ytcckhkcchpfdoaa", sum := "6889a980acdd64ac24f77d9b405bca1a85c2c94f074e44dd715f644b75075946", func := "bellarmine/bellarminelaw07.ShareMost", spec := "shareMost", unfollowed := true, recurses := true, apart := false }
def ShareMostSaid : Prop := shareMostRow.holds Try.pinned (OpenSpec.ofChange shareMostSpec)

/-- ITS FALSE NEIGHBOUR: 'it returns false'. Refute it at one input. -/
def shareMostWrong : ChangeSpec := { name := "shareMost", fn := fun _ => fun
  | [d] => { results := [.lit (.bool false)], args := [d] }
  | _ => none }
def ShareMostWrongFalsely : Prop := shareMostRow.holds Try.pinned (OpenSpec.ofChange shareMostWrong)

/-- 'bellarminelaw07.ShareFree': WHATEVER THE INPUT: true; the input reads as it did. -/
def shareFreeSpec : ChangeSpec := { name := "shareFree", fn := fun _ => fun
  | [d] => { results := [.lit (.bool true)], args := [d] }
  | _ => none }
def shareFreeRow : OpenClaim := { program := "ytcckhkcchpfdoaa", sum := "6889a980acdd64ac24f77d9b405bca1a85c2c94f074e44dd715f644b75075946", func := "bellarmine/bellarminelaw07.ShareFree", spec := "shareFree", unfollowed := true, recurses := true, apart := false }
def ShareFreeSaid : Prop := shareFreeRow.holds Try.pinned (OpenSpec.ofChange shareFreeSpec)

/-- ITS FALSE NEIGHBOUR: 'it returns false'. Refute it at one input. -/
def shareFreeWrong : ChangeSpec := { name := "shareFree", fn := fun _ => fun
  | [d] => { results := [.lit (.bool false)], args := [d] }
  | _ => none }
def ShareFreeWrongFalsely : Prop := shareFreeRow.holds Try.pinned (OpenSpec.ofChange shareFreeWrong)

/-- 'bellarminelaw07.ShareJudged': WHATEVER THE INPUT: true; the input reads as it did. -/
def shareJudgedSpec : ChangeSpec := { name := "shareJudged", fn := fun _ => fun
  | [d1, d2] => { results := [.lit (.bool true)], args := [d1, d2] }
  | _ => none }
def shareJudgedRow : OpenClaim := { program := "ytcckhkcchpfdoaa", sum := "6889a980acdd64ac24f77d9b405bca1a85c2c94f074e44dd715f644b75075946", func := "bellarmine/bellarminelaw07.ShareJudged", spec := "shareJudged", unfollowed := true, recurses := true, apart := false }
def ShareJudgedSaid : Prop := shareJudgedRow.holds Try.pinned (OpenSpec.ofChange shareJudgedSpec)

/-- ITS FALSE NEIGHBOUR: 'it returns false'. Refute it at one input. -/
def shareJudgedWrong : ChangeSpec := { name := "shareJudged", fn := fun _ => fun
  | [d1, d2] => { results := [.lit (.bool false)], args := [d1, d2] }
  | _ => none }
def ShareJudgedWrongFalsely : Prop := shareJudgedRow.holds Try.pinned (OpenSpec.ofChange shareJudgedWrong)

/-- 'bellarminelaw07.ShareAlike': WHATEVER THE INPUT: true; the input reads as it did. -/
def shareAlikeSpec : ChangeSpec := { name := "shareAlike", fn := fun _ => fun
  | [d1, d2] => { results := [.lit (.bool true)], args := [d1, d2] }
  | _ => none }
def shareAlikeRow : OpenClaim := { program := "ytcckhkcchpfdoaa", sum := "6889a980acdd64ac24f77d9b405bca1a85c2c94f074e44dd715f644b75075946", func := "bellarmine/bellarminelaw07.ShareAlike", spec := "shareAlike", unfollowed := true, recurses := true, apart := false }
def ShareAlikeSaid : Prop := shareAlikeRow.holds Try.pinned (OpenSpec.ofChange shareAlikeSpec)

/-- ITS FALSE NEIGHBOUR: 'it returns false'. Refute it at one input. -/
def shareAlikeWrong : ChangeSpec := { name := "shareAlike", fn := fun _ => fun
  | [d1, d2] => { results := [.lit (.bool false)], args := [d1, d2] }
  | _ => none }
def ShareAlikeWrongFalsely : Prop := shareAlikeRow.holds Try.pinned (OpenSpec.ofChange shareAlikeWrong)

/-- 'bellarminelaw07.ShareKnown': WHATEVER THE INPUT: true; the input reads as it did. -/
def shareKnownSpec : ChangeSpec := { name := "shareKnown", fn := fun _ => fun
  | [] => { results := [.lit (.bool true)], args := [] }
  | _ => none }
def shareKnownRow : OpenClaim := { program := "ytcckhkcchpfdoaa", sum := "6889a980acdd64ac24f77d9b405bca1a85c2c94f074e44dd715f644b75075946", func := "bellarmine/bellarminelaw07.ShareKnown", spec := "shareKnown", unfollowed := true, recurses := true, apart := false }
def ShareKnownSaid : Prop := shareKnownRow.holds Try.pinned (OpenSpec.ofChange shareKnownSpec)

/-- ITS FALSE NEIGHBOUR: 'it returns false'. Refute it at one input. -/
def shareKnownWrong : ChangeSpec := { name := "shareKnown", fn := fun _ => fun
  | [] => { results := [.lit (.bool false)], args := [] }
  | _ => none }
def ShareKnownWrongFalsely : Prop := shareKnownRow.holds Try.pinned (OpenSpec.ofChange shareKnownWrong)

/-- 'bellarminelaw07.ShareBetter': WHATEVER THE INPUT: true; the input reads as it did. -/
def shareBetterSpec : ChangeSpec := { name := "shareBetter", fn := fun _ => fun
  | [d1, d2] => { results := [.lit (.bool true)], args := [d1, d2] }
  | _ => none }
def shareBetterRow : OpenClaim := { program := "ytcckhkcchpfdoaa", sum := "6889a980acdd64ac24f77d9b405bca1a85c2c94f074e44dd715f644b75075946", func := "bellarmine/bellarminelaw07.ShareBetter", spec := "shareBetter", unfollowed := true, recurses := true, apart := false }
def ShareBetterSaid : Prop := shareBetterRow.holds Try.pinned (OpenSpec.ofChange shareBetterSpec)

/-- ITS FALSE NEIGHBOUR: 'it returns false'. Refute it at one input. -/
def shareBetterWrong : ChangeSpec := { name := "shareBetter", fn := fun _ => fun
  | [d1, d2] => { results := [.lit (.bool false)], args := [d1, d2] }
  | _ => none }
def ShareBetterWrongFalsely : Prop := shareBetterRow.holds Try.pinned (OpenSpec.ofChange shareBetterWrong)

/-- 'bellarminelaw07.ShareTimes': WHATEVER THE INPUT: true; the input reads as it did. -/
def shareTimesSpec : ChangeSpec := { name := "shareTimes", fn := fun _ => fun
  | [d1, d2, d3, d4] => { results := [.lit (.bool true)], args := [d1, d2, d3, d4] }
  | _ => none }
def shareTimesRow : OpenClaim := { program := "ytcckhkcchpfdoaa", sum := "6889a980acdd64ac24f77d9b405bca1a85c2c94f074e44dd715f644b75075946", func := "bellarmine/bellarminelaw07.ShareTimes", spec := "shareTimes", unfollowed := true, recurses := true, apart := false }
def ShareTimesSaid : Prop := shareTimesRow.holds Try.pinned (OpenSpec.ofChange shareTimesSpec)

/-- ITS FALSE NEIGHBOUR: 'it returns false'. Refute it at one input. -/
def shareTimesWrong : ChangeSpec := { name := "shareTimes", fn := fun _ => fun
  | [d1, d2, d3, d4] => { results := [.lit (.bool false)], args := [d1, d2, d3, d4] }
  | _ => none }
def ShareTimesWrongFalsely : Prop := shareTimesRow.holds Try.pinned (OpenSpec.ofChange shareTimesWrong)

/-- 'bellarminelaw07.ShareNamed': WHATEVER THE INPUT: true; the input reads as it did. -/
def shareNamedSpec : ChangeSpec := { name := "shareNamed", fn := fun _ => fun
  | [d1, d2] => { results := [.lit (.bool true)], args := [d1, d2] }
  | _ => none }
def shareNamedRow : OpenClaim := { program := "ytcckhkcchpfdoaa", sum := "6889a980acdd64ac24f77d9b405bca1a85c2c94f074e44dd715f644b75075946", func := "bellarmine/bellarminelaw07.ShareNamed", spec := "shareNamed", unfollowed := true, recurses := true, apart := false }
def ShareNamedSaid : Prop := shareNamedRow.holds Try.pinned (OpenSpec.ofChange shareNamedSpec)

/-- ITS FALSE NEIGHBOUR: 'it returns false'. Refute it at one input. -/
def shareNamedWrong : ChangeSpec := { name := "shareNamed", fn := fun _ => fun
  | [d1, d2] => { results := [.lit (.bool false)], args := [d1, d2] }
  | _ => none }
def ShareNamedWrongFalsely : Prop := shareNamedRow.holds Try.pinned (OpenSpec.ofChange shareNamedWrong)

/-- 'bellarminelaw07.ShareTurned': WHATEVER THE INPUT: true; the input reads as it did. -/
def shareTurnedSpec : ChangeSpec := { name := "shareTurned", fn := fun _ => fun
  | [d1, d2] => { results := [.lit (.bool true)], args := [d1, d2] }
  | _ => none }
def shareTurnedRow : OpenClaim := { program := "ytcckhkcchpfdoaa", sum := "6889a980acdd64ac24f77d9b405bca1a85c2c94f074e44dd715f644b75075946", func := "bellarmine/bellarminelaw07.ShareTurned", spec := "shareTurned", unfollowed := true, recurses := true, apart := false }
def ShareTurnedSaid : Prop := shareTurnedRow.holds Try.pinned (OpenSpec.ofChange shareTurnedSpec)

/-- ITS FALSE NEIGHBOUR: 'it returns false'. Refute it at one input. -/
def shareTurnedWrong : ChangeSpec := { name := "shareTurned", fn := fun _ => fun
  | [d1, d2] => { results := [.lit (.bool false)], args := [d1, d2] }
  | _ => none }
def ShareTurnedWrongFalsely : Prop := shareTurnedRow.holds Try.pinned (OpenSpec.ofChange shareTurnedWrong)

/- THE SECOND FORM. 'bulk': how many values and letters a reading holds, each counted each time it is reached (what is shared counts as often as it is met; a slice's spare places count too). A statement '..UptoSaid' is the law's where the arguments, and the package variables that the reading takes, are together of bulk at most 1048576: NARROWER than '..Said'. Prove '..Said' where nothing that the law and all that it calls make is longer than what came in: it says more and counts as full. Else prove '..UptoSaid'. A law counts once. -/
mutual
def uptoBulk {H : Type} : DataW H → Nat
  | .lit (.string bytes) => bytes.length + 1
  | .lit _ => 1
  | .nil => 1
  | .ptr d => uptoBulk d + 1
  | .slice elems spare => uptoBulkAll elems + uptoBulkAll spare + 1
  | .agg parts => uptoBulkAll parts + 1
  | .iface _ d => uptoBulk d + 1
  | .map entries => uptoBulkEntries entries + 1
  | .held _ => 1
def uptoBulkAll {H : Type} : List (DataW H) → Nat
  | [] => 0
  | d :: r => uptoBulk d + uptoBulkAll r
def uptoBulkEntries {H : Type} : List (Lit × DataW H) → Nat
  | [] => 0
  | x :: r => uptoBulkEntry x + uptoBulkEntries r
def uptoBulkEntry {H : Type} : Lit × DataW H → Nat
  | (.string bytes, d) => bytes.length + uptoBulk d + 1
  | (_, d) => uptoBulk d + 1
 end
def uptoSmall : (H : Type) → List (DataW H) → Bool := fun _ ds => decide (uptoBulkAll ds ≤ 1048576)
def OpenSpec.upto (s : _root_.Go.ChangeSpec) : _root_.Go.OpenSpec := { _root_.Go.OpenSpec.ofChange s with cond := some uptoSmall }

/-- 'bellarminelaw07.ShareWorths', WHERE WHAT IT READS IS OF BULK AT MOST 1048576: true; the input reads as it did. -/
def shareWorthsUptoRow : OpenClaim := { program := "ytcckhkcchpfdoaa", sum := "6889a980acdd64ac24f77d9b405bca1a85c2c94f074e44dd715f644b75075946", func := "bellarmine/bellarminelaw07.ShareWorths", spec := "shareWorths", unfollowed := true, recurses := true, apart := false, narrowed := true }
def ShareWorthsUptoSaid : Prop := shareWorthsUptoRow.holds Try.pinned (OpenSpec.upto shareWorthsSpec)

/-- 'bellarminelaw07.ShareWhys', WHERE WHAT IT READS IS OF BULK AT MOST 1048576: true; the input reads as it did. -/
def shareWhysUptoRow : OpenClaim := { program := "ytcckhkcchpfdoaa", sum := "6889a980acdd64ac24f77d9b405bca1a85c2c94f074e44dd715f644b75075946", func := "bellarmine/bellarminelaw07.ShareWhys", spec := "shareWhys", unfollowed := true, recurses := true, apart := false, narrowed := true }
def ShareWhysUptoSaid : Prop := shareWhysUptoRow.holds Try.pinned (OpenSpec.upto shareWhysSpec)

/-- 'bellarminelaw07.ShareGives', WHERE WHAT IT READS IS OF BULK AT MOST 1048576: true; the input reads as it did. -/
def shareGivesUptoRow : OpenClaim := { program := "ytcckhkcchpfdoaa", sum := "6889a980acdd64ac24f77d9b405bca1a85c2c94f074e44dd715f644b75075946", func := "bellarmine/bellarminelaw07.ShareGives", spec := "shareGives", unfollowed := true, recurses := true, apart := false, narrowed := true }
def ShareGivesUptoSaid : Prop := shareGivesUptoRow.holds Try.pinned (OpenSpec.upto shareGivesSpec)

/-- 'bellarminelaw07.ShareFinds', WHERE WHAT IT READS IS OF BULK AT MOST 1048576: true; the input reads as it did. -/
def shareFindsUptoRow : OpenClaim := { program := "ytcckhkcchpfdoaa", sum := "6889a980acdd64ac24f77d9b405bca1a85c2c94f074e44dd715f644b75075946", func := "bellarmine/bellarminelaw07.ShareFinds", spec := "shareFinds", unfollowed := true, recurses := true, apart := false, narrowed := true }
def ShareFindsUptoSaid : Prop := shareFindsUptoRow.holds Try.pinned (OpenSpec.upto shareFindsSpec)

/-- 'bellarminelaw07.ShareRings', WHERE WHAT IT READS IS OF BULK AT MOST 1048576: true; the input reads as it did. -/
def shareRingsUptoRow : OpenClaim := { program := "ytcckhkcchpfdoaa", sum := "6889a980acdd64ac24f77d9b405bca1a85c2c94f074e44dd715f644b75075946", func := "bellarmine/bellarminelaw07.ShareRings", spec := "shareRings", unfollowed := true, recurses := true, apart := false, narrowed := true }
def ShareRingsUptoSaid : Prop := shareRingsUptoRow.holds Try.pinned (OpenSpec.upto shareRingsSpec)

/-- 'bellarminelaw07.ShareMost', WHERE WHAT IT READS IS OF BULK AT MOST 1048576: true; the input reads as it did. -/
def shareMostUptoRow : OpenClaim := { program := "ytcckhkcchpfdoaa", sum := "6889a980acdd64ac24f77d9b405bca1a85c2c94f074e44dd715f644b75075946", func := "bellarmine/bellarminelaw07.ShareMost", spec := "shareMost", unfollowed := true, recurses := true, apart := false, narrowed := true }
def ShareMostUptoSaid : Prop := shareMostUptoRow.holds Try.pinned (OpenSpec.upto shareMostSpec)

/-- 'bellarminelaw07.ShareFree', WHERE WHAT IT READS IS OF BULK AT MOST 1048576: true; the input reads as it did. -/
def shareFreeUptoRow : OpenClaim := { program := "ytcckhkcchpfdoaa", sum := "6889a980acdd64ac24f77d9b405bca1a85c2c94f074e44dd715f644b75075946", func := "bellarmine/bellarminelaw07.ShareFree", spec := "shareFree", unfollowed := true, recurses := true, apart := false, narrowed := true }
def ShareFreeUptoSaid : Prop := shareFreeUptoRow.holds Try.pinned (OpenSpec.upto shareFreeSpec)

/-- 'bellarminelaw07.ShareJudged', WHERE WHAT IT READS IS OF BULK AT MOST 1048576: true; the input reads as it did. -/
def shareJudgedUptoRow : OpenClaim := { program := "ytcckhkcchpfdoaa", sum := "6889a980acdd64ac24f77d9b405bca1a85c2c94f074e44dd715f644b75075946", func := "bellarmine/bellarminelaw07.ShareJudged", spec := "shareJudged", unfollowed := true, recurses := true, apart := false, narrowed := true }
def ShareJudgedUptoSaid : Prop := shareJudgedUptoRow.holds Try.pinned (OpenSpec.upto shareJudgedSpec)

/-- 'bellarminelaw07.ShareAlike', WHERE WHAT IT READS IS OF BULK AT MOST 1048576: true; the input reads as it did. -/
def shareAlikeUptoRow : OpenClaim := { program := "ytcckhkcchpfdoaa", sum := "6889a980acdd64ac24f77d9b405bca1a85c2c94f074e44dd715f644b75075946", func := "bellarmine/bellarminelaw07.ShareAlike", spec := "shareAlike", unfollowed := true, recurses := true, apart := false, narrowed := true }
def ShareAlikeUptoSaid : Prop := shareAlikeUptoRow.holds Try.pinned (OpenSpec.upto shareAlikeSpec)

/-- 'bellarminelaw07.ShareKnown', WHERE WHAT IT READS IS OF BULK AT MOST 1048576: true; the input reads as it did. -/
def shareKnownUptoRow : OpenClaim := { program := "ytcckhkcchpfdoaa", sum := "6889a980acdd64ac24f77d9b405bca1a85c2c94f074e44dd715f644b75075946", func := "bellarmine/bellarminelaw07.ShareKnown", spec := "shareKnown", unfollowed := true, recurses := true, apart := false, narrowed := true }
def ShareKnownUptoSaid : Prop := shareKnownUptoRow.holds Try.pinned (OpenSpec.upto shareKnownSpec)

/-- 'bellarminelaw07.ShareBetter', WHERE WHAT IT READS IS OF BULK AT MOST 1048576: true; the input reads as it did. -/
def shareBetterUptoRow : OpenClaim := { program := "ytcckhkcchpfdoaa", sum := "6889a980acdd64ac24f77d9b405bca1a85c2c94f074e44dd715f644b75075946", func := "bellarmine/bellarminelaw07.ShareBetter", spec := "shareBetter", unfollowed := true, recurses := true, apart := false, narrowed := true }
def ShareBetterUptoSaid : Prop := shareBetterUptoRow.holds Try.pinned (OpenSpec.upto shareBetterSpec)

/-- 'bellarminelaw07.ShareTimes', WHERE WHAT IT READS IS OF BULK AT MOST 1048576: true; the input reads as it did. -/
def shareTimesUptoRow : OpenClaim := { program := "ytcckhkcchpfdoaa", sum := "6889a980acdd64ac24f77d9b405bca1a85c2c94f074e44dd715f644b75075946", func := "bellarmine/bellarminelaw07.ShareTimes", spec := "shareTimes", unfollowed := true, recurses := true, apart := false, narrowed := true }
def ShareTimesUptoSaid : Prop := shareTimesUptoRow.holds Try.pinned (OpenSpec.upto shareTimesSpec)

/-- 'bellarminelaw07.ShareNamed', WHERE WHAT IT READS IS OF BULK AT MOST 1048576: true; the input reads as it did. -/
def shareNamedUptoRow : OpenClaim := { program := "ytcckhkcchpfdoaa", sum := "6889a980acdd64ac24f77d9b405bca1a85c2c94f074e44dd715f644b75075946", func := "bellarmine/bellarminelaw07.ShareNamed", spec := "shareNamed", unfollowed := true, recurses := true, apart := false, narrowed := true }
def ShareNamedUptoSaid : Prop := shareNamedUptoRow.holds Try.pinned (OpenSpec.upto shareNamedSpec)

/-- 'bellarminelaw07.ShareTurned', WHERE WHAT IT READS IS OF BULK AT MOST 1048576: true; the input reads as it did. -/
def shareTurnedUptoRow : OpenClaim := { program := "ytcckhkcchpfdoaa", sum := "6889a980acdd64ac24f77d9b405bca1a85c2c94f074e44dd715f644b75075946", func := "bellarmine/bellarminelaw07.ShareTurned", spec := "shareTurned", unfollowed := true, recurses := true, apart := false, narrowed := true }
def ShareTurnedUptoSaid : Prop := shareTurnedUptoRow.holds Try.pinned (OpenSpec.upto shareTurnedSpec)

end Rows
end Go.Proofs.Ytcckhkcchpfdoaa
