/-
  No cell of these rows narrows 'for every input' (looked for: loops, veiled, ifaces, maps, wideKeys, modest, calm, conditions, laid).
  DERIVED. THE GIVEN ROWS OF THIS SEAT. 12 by the template 'for every input the law returns true; each argument reads behind the call as it read before'; 0 by the template 'total and deterministic' (their statements: YtgogknjedpmcgaaTotals.lean).
  GIVEN WITH THE SEED: the statements are not yours to turn. If you find one false, say at which input.
  Laid BY PROGRAM, IN A SANDBOX (cutbox-rows.mjs): the forced cells as the released guide's own fill.sh prints them over the translation 6605070c29669286… (all of the seat's roots in one cut). By AI agents, Wed Nov 11 2026. No macro, syntax, notation, axiom, sorry.
-/
import Derived.Test.YtgogknjedpmcgaaChecked
import GoSem.Claim
import GoSem.ClaimJoined
import GoSem.ClaimMapViews
import Derived.JoinedTies
import Derived.KernelRfl
namespace Go.Proofs.Ytgogknjedpmcgaa
/- THE CELL 'sum', in the pinned program and in every row, IS THE sha256 OF THE DUMP (.gsa) THAT YtgogknjedpmcgaaProg.lean LOADS. Nothing in Lean hashes anything: it is a label: what it is worth is what the hold of that sum in a sandbox is worth. -/
noncomputable def Try.pinned : Pinned := { name := "ytgogknjedpmcgaa", sum := "6605070c296692861e8896e51528238a3ea266b93b3339ab18d39b4d438f3521", checked := Try.checked }
namespace Rows
def none {H : Type} : Left H := { results := [], args := [] }

/-- 'bellarminelaw13.WashMoves': WHATEVER THE INPUT: true; the input reads as it did. -/
def washMovesSpec : ChangeSpec := { name := "washMoves", fn := fun _ => fun
  | [d1, d2, d3, d4] => { results := [.lit (.bool true)], args := [d1, d2, d3, d4] }
  | _ => none }
def washMovesRow : OpenClaim := { program := "ytgogknjedpmcgaa", sum := "6605070c296692861e8896e51528238a3ea266b93b3339ab18d39b4d438f3521", func := "bellarmine/bellarminelaw13.WashMoves", spec := "washMoves", unfollowed := true, recurses := true, plainKeys := false, apart := false }
def WashMovesSaid : Prop := washMovesRow.holds Try.pinned (OpenSpec.ofChange washMovesSpec)

/-- ITS FALSE NEIGHBOUR: 'it returns false'. Refute it at one input. -/
def washMovesWrong : ChangeSpec := { name := "washMoves", fn := fun _ => fun
  | [d1, d2, d3, d4] => { results := [.lit (.bool false)], args := [d1, d2, d3, d4] }
  | _ => none }
def WashMovesWrongFalsely : Prop := washMovesRow.holds Try.pinned (OpenSpec.ofChange washMovesWrong)

/-- 'bellarminelaw13.WashJoins': WHATEVER THE INPUT: true; the input reads as it did. -/
def washJoinsSpec : ChangeSpec := { name := "washJoins", fn := fun _ => fun
  | [d1, d2] => { results := [.lit (.bool true)], args := [d1, d2] }
  | _ => none }
def washJoinsRow : OpenClaim := { program := "ytgogknjedpmcgaa", sum := "6605070c296692861e8896e51528238a3ea266b93b3339ab18d39b4d438f3521", func := "bellarmine/bellarminelaw13.WashJoins", spec := "washJoins", unfollowed := true, recurses := true, plainKeys := false, apart := false }
def WashJoinsSaid : Prop := washJoinsRow.holds Try.pinned (OpenSpec.ofChange washJoinsSpec)

/-- ITS FALSE NEIGHBOUR: 'it returns false'. Refute it at one input. -/
def washJoinsWrong : ChangeSpec := { name := "washJoins", fn := fun _ => fun
  | [d1, d2] => { results := [.lit (.bool false)], args := [d1, d2] }
  | _ => none }
def WashJoinsWrongFalsely : Prop := washJoinsRow.holds Try.pinned (OpenSpec.ofChange washJoinsWrong)

/-- 'bellarminelaw13.WashHalves': WHATEVER THE INPUT: true; the input reads as it did. -/
def washHalvesSpec : ChangeSpec := { name := "washHalves", fn := fun _ => fun
  | [d1, d2] => { results := [.lit (.bool true)], args := [d1, d2] }
  | _ => none }
def washHalvesRow : OpenClaim := { program := "ytgogknjedpmcgaa", sum := "6605070c296692861e8896e51528238a3ea266b93b3339ab18d39b4d438f3521", func := "bellarmine/bellarminelaw13.WashHalves", spec := "washHalves", unfollowed := true, recurses := true, plainKeys := false, apart := false }
def WashHalvesSaid : Prop := washHalvesRow.holds Try.pinned (OpenSpec.ofChange washHalvesSpec)

/-- ITS FALSE NEIGHBOUR: 'it returns false'. Refute it at one input. -/
def washHalvesWrong : ChangeSpec := { name := "washHalves", fn := fun _ => fun
  | [d1, d2] => { results := [.lit (.bool false)], args := [d1, d2] }
  | _ => none }
def WashHalvesWrongFalsely : Prop := washHalvesRow.holds Try.pinned (OpenSpec.ofChange washHalvesWrong)

/-- 'bellarminelaw13.WashFriends': WHATEVER THE INPUT: true; the input reads as it did. -/
def washFriendsSpec : ChangeSpec := { name := "washFriends", fn := fun _ => fun
  | [d] => { results := [.lit (.bool true)], args := [d] }
  | _ => none }
def washFriendsRow : OpenClaim := { program := "ytgogknjedpmcgaa", sum := "6605070c296692861e8896e51528238a3ea266b93b3339ab18d39b4d438f3521", func := "bellarmine/bellarminelaw13.WashFriends", spec := "washFriends", unfollowed := true, recurses := true, plainKeys := false, apart := false }
def WashFriendsSaid : Prop := washFriendsRow.holds Try.pinned (OpenSpec.ofChange washFriendsSpec)

/-- ITS FALSE NEIGHBOUR: 'it returns false'. Refute it at one input. -/
def washFriendsWrong : ChangeSpec := { name := "washFriends", fn := fun _ => fun
  | [d] => { results := [.lit (.bool false)], args := [d] }
  | _ => none }
def WashFriendsWrongFalsely : Prop := washFriendsRow.holds Try.pinned (OpenSpec.ofChange washFriendsWrong)

/-- 'bellarminelaw13.WashSummed': WHATEVER THE INPUT: true; the input reads as it did. -/
def washSummedSpec : ChangeSpec := { name := "washSummed", fn := fun _ => fun
  | [d] => { results := [.lit (.bool true)], args := [d] }
  | _ => none }
def washSummedRow : OpenClaim := { program := "ytgogknjedpmcgaa", sum := "6605070c296692861e8896e51528238a3ea266b93b3339ab18d39b4d438f3521", func := "bellarmine/bellarminelaw13.WashSummed", spec := "washSummed", unfollowed := true, recurses := true, plainKeys := false, apart := false }
def WashSummedSaid : Prop := washSummedRow.holds Try.pinned (OpenSpec.ofChange washSummedSpec)

/-- ITS FALSE NEIGHBOUR: 'it returns false'. Refute it at one input. -/
def washSummedWrong : ChangeSpec := { name := "washSummed", fn := fun _ => fun
  | [d] => { results := [.lit (.bool false)], args := [d] }
  | _ => none }
def WashSummedWrongFalsely : Prop := washSummedRow.holds Try.pinned (OpenSpec.ofChange washSummedWrong)

/-- 'bellarminelaw13.WashKnown': WHATEVER THE INPUT: true; the input reads as it did. -/
def washKnownSpec : ChangeSpec := { name := "washKnown", fn := fun _ => fun
  | [] => { results := [.lit (.bool true)], args := [] }
  | _ => none }
def washKnownRow : OpenClaim := { program := "ytgogknjedpmcgaa", sum := "6605070c296692861e8896e51528238a3ea266b93b3339ab18d39b4d438f3521", func := "bellarmine/bellarminelaw13.WashKnown", spec := "washKnown", unfollowed := true, recurses := true, plainKeys := false, apart := false }
def WashKnownSaid : Prop := washKnownRow.holds Try.pinned (OpenSpec.ofChange washKnownSpec)

/-- ITS FALSE NEIGHBOUR: 'it returns false'. Refute it at one input. -/
def washKnownWrong : ChangeSpec := { name := "washKnown", fn := fun _ => fun
  | [] => { results := [.lit (.bool false)], args := [] }
  | _ => none }
def WashKnownWrongFalsely : Prop := washKnownRow.holds Try.pinned (OpenSpec.ofChange washKnownWrong)

/-- 'bellarminelaw13.WashRoots': WHATEVER THE INPUT: true; the input reads as it did. -/
def washRootsSpec : ChangeSpec := { name := "washRoots", fn := fun _ => fun
  | [d] => { results := [.lit (.bool true)], args := [d] }
  | _ => none }
def washRootsRow : OpenClaim := { program := "ytgogknjedpmcgaa", sum := "6605070c296692861e8896e51528238a3ea266b93b3339ab18d39b4d438f3521", func := "bellarmine/bellarminelaw13.WashRoots", spec := "washRoots", unfollowed := true, recurses := true, plainKeys := false, apart := false }
def WashRootsSaid : Prop := washRootsRow.holds Try.pinned (OpenSpec.ofChange washRootsSpec)

/-- ITS FALSE NEIGHBOUR: 'it returns false'. Refute it at one input. -/
def washRootsWrong : ChangeSpec := { name := "washRoots", fn := fun _ => fun
  | [d] => { results := [.lit (.bool false)], args := [d] }
  | _ => none }
def WashRootsWrongFalsely : Prop := washRootsRow.holds Try.pinned (OpenSpec.ofChange washRootsWrong)

/-- 'bellarminelaw13.WashHalved': WHATEVER THE INPUT: true; the input reads as it did. -/
def washHalvedSpec : ChangeSpec := { name := "washHalved", fn := fun _ => fun
  | [d] => { results := [.lit (.bool true)], args := [d] }
  | _ => none }
def washHalvedRow : OpenClaim := { program := "ytgogknjedpmcgaa", sum := "6605070c296692861e8896e51528238a3ea266b93b3339ab18d39b4d438f3521", func := "bellarmine/bellarminelaw13.WashHalved", spec := "washHalved", unfollowed := true, recurses := true, plainKeys := false, apart := false }
def WashHalvedSaid : Prop := washHalvedRow.holds Try.pinned (OpenSpec.ofChange washHalvedSpec)

/-- ITS FALSE NEIGHBOUR: 'it returns false'. Refute it at one input. -/
def washHalvedWrong : ChangeSpec := { name := "washHalved", fn := fun _ => fun
  | [d] => { results := [.lit (.bool false)], args := [d] }
  | _ => none }
def WashHalvedWrongFalsely : Prop := washHalvedRow.holds Try.pinned (OpenSpec.ofChange washHalvedWrong)

/-- 'bellarminelaw13.WashWhen': WHATEVER THE INPUT: true; the input reads as it did. -/
def washWhenSpec : ChangeSpec := { name := "washWhen", fn := fun _ => fun
  | [d1, d2, d3] => { results := [.lit (.bool true)], args := [d1, d2, d3] }
  | _ => none }
def washWhenRow : OpenClaim := { program := "ytgogknjedpmcgaa", sum := "6605070c296692861e8896e51528238a3ea266b93b3339ab18d39b4d438f3521", func := "bellarmine/bellarminelaw13.WashWhen", spec := "washWhen", unfollowed := true, recurses := true, plainKeys := false, apart := false }
def WashWhenSaid : Prop := washWhenRow.holds Try.pinned (OpenSpec.ofChange washWhenSpec)

/-- ITS FALSE NEIGHBOUR: 'it returns false'. Refute it at one input. -/
def washWhenWrong : ChangeSpec := { name := "washWhen", fn := fun _ => fun
  | [d1, d2, d3] => { results := [.lit (.bool false)], args := [d1, d2, d3] }
  | _ => none }
def WashWhenWrongFalsely : Prop := washWhenRow.holds Try.pinned (OpenSpec.ofChange washWhenWrong)

/-- 'bellarminelaw13.WashNamed': WHATEVER THE INPUT: true; the input reads as it did. -/
def washNamedSpec : ChangeSpec := { name := "washNamed", fn := fun _ => fun
  | [d1, d2, d3] => { results := [.lit (.bool true)], args := [d1, d2, d3] }
  | _ => none }
def washNamedRow : OpenClaim := { program := "ytgogknjedpmcgaa", sum := "6605070c296692861e8896e51528238a3ea266b93b3339ab18d39b4d438f3521", func := "bellarmine/bellarminelaw13.WashNamed", spec := "washNamed", unfollowed := true, recurses := true, plainKeys := false, apart := false }
def WashNamedSaid : Prop := washNamedRow.holds Try.pinned (OpenSpec.ofChange washNamedSpec)

/-- ITS FALSE NEIGHBOUR: 'it returns false'. Refute it at one input. -/
def washNamedWrong : ChangeSpec := { name := "washNamed", fn := fun _ => fun
  | [d1, d2, d3] => { results := [.lit (.bool false)], args := [d1, d2, d3] }
  | _ => none }
def WashNamedWrongFalsely : Prop := washNamedRow.holds Try.pinned (OpenSpec.ofChange washNamedWrong)

/-- 'bellarminelaw13.WashExchanged': WHATEVER THE INPUT: true; the input reads as it did. -/
def washExchangedSpec : ChangeSpec := { name := "washExchanged", fn := fun _ => fun
  | [d1, d2] => { results := [.lit (.bool true)], args := [d1, d2] }
  | _ => none }
def washExchangedRow : OpenClaim := { program := "ytgogknjedpmcgaa", sum := "6605070c296692861e8896e51528238a3ea266b93b3339ab18d39b4d438f3521", func := "bellarmine/bellarminelaw13.WashExchanged", spec := "washExchanged", unfollowed := true, recurses := true, plainKeys := false, apart := false }
def WashExchangedSaid : Prop := washExchangedRow.holds Try.pinned (OpenSpec.ofChange washExchangedSpec)

/-- ITS FALSE NEIGHBOUR: 'it returns false'. Refute it at one input. -/
def washExchangedWrong : ChangeSpec := { name := "washExchanged", fn := fun _ => fun
  | [d1, d2] => { results := [.lit (.bool false)], args := [d1, d2] }
  | _ => none }
def WashExchangedWrongFalsely : Prop := washExchangedRow.holds Try.pinned (OpenSpec.ofChange washExchangedWrong)

/-- 'bellarminelaw13.WashAround': WHATEVER THE INPUT: true; the input reads as it did. -/
def washAroundSpec : ChangeSpec := { name := "washAround", fn := fun _ => fun
  | [d1, d2, d3] => { results := [.lit (.bool true)], args := [d1, d2, d3] }
  | _ => none }
def washAroundRow : OpenClaim := { program := "ytgogknjedpmcgaa", sum := "6605070c296692861e8896e51528238a3ea266b93b3339ab18d39b4d438f3521", func := "bellarmine/bellarminelaw13.WashAround", spec := "washAround", unfollowed := true, recurses := true, plainKeys := false, apart := false }
def WashAroundSaid : Prop := washAroundRow.holds Try.pinned (OpenSpec.ofChange washAroundSpec)

/-- ITS FALSE NEIGHBOUR: 'it returns false'. Refute it at one input. -/
def washAroundWrong : ChangeSpec := { name := "washAround", fn := fun _ => fun
  | [d1, d2, d3] => { results := [.lit (.bool false)], args := [d1, d2, d3] }
  | _ => none }
def WashAroundWrongFalsely : Prop := washAroundRow.holds Try.pinned (OpenSpec.ofChange washAroundWrong)

/- THE SECOND FORM. 'bulk': how many values and letters a reading holds, each counted each time it is reached (what is shared counts as often as it is met; a slice's spare places count too). A statement '..UptoSaid' is the law's where the arguments, and the package variables that the reading takes, are together of bulk at most 1048576: NARROWER than '..Said'. Prove '..Said' where nothing that the law and all that it calls make is longer than what came in: it says more and counts as full. Else prove '..UptoSaid'. A law counts once. -/
mutual
def uptoBulk {H : Type} : DataW H → Nat
  | .lit (.string bytes) => bytes.length + 1
  | .lit _ => 1
  | .nil => 1
  | .ptr d => uptoBulk d + 1
  | .slice elems spare => uptoBulkAll elems + uptoBulkAll spare + 1
  | .agg parts => uptoBulkAll parts + 1
  | .iface _ d => uptoBulk d + 1
  | .map entries => uptoBulkEntries entries + 1
  | .held _ => 1
def uptoBulkAll {H : Type} : List (DataW H) → Nat
  | [] => 0
  | d :: r => uptoBulk d + uptoBulkAll r
def uptoBulkEntries {H : Type} : List (Lit × DataW H) → Nat
  | [] => 0
  | x :: r => uptoBulkEntry x + uptoBulkEntries r
def uptoBulkEntry {H : Type} : Lit × DataW H → Nat
  | (.string bytes, d) => bytes.length + uptoBulk d + 1
  | (_, d) => uptoBulk d + 1
 end
def uptoSmall : (H : Type) → List (DataW H) → Bool := fun _ ds => decide (uptoBulkAll ds ≤ 1048576)
def OpenSpec.upto (s : _root_.Go.ChangeSpec) : _root_.Go.OpenSpec := { _root_.Go.OpenSpec.ofChange s with cond := some uptoSmall }

/-- 'bellarminelaw13.WashMoves', WHERE WHAT IT READS IS OF BULK AT MOST 1048576: true; the input reads as it did. -/
def washMovesUptoRow : OpenClaim := { program := "ytgogknjedpmcgaa", sum := "6605070c296692861e8896e51528238a3ea266b93b3339ab18d39b4d438f3521", func := "bellarmine/bellarminelaw13.WashMoves", spec := "washMoves", unfollowed := true, recurses := true, plainKeys := false, apart := false, narrowed := true }
def WashMovesUptoSaid : Prop := washMovesUptoRow.holds Try.pinned (OpenSpec.upto washMovesSpec)

/-- 'bellarminelaw13.WashJoins', WHERE WHAT IT READS IS OF BULK AT MOST 1048576: true; the input reads as it did. -/
def washJoinsUptoRow : OpenClaim := { program := "ytgogknjedpmcgaa", sum := "6605070c296692861e8896e51528238a3ea266b93b3339ab18d39b4d438f3521", func := "bellarmine/bellarminelaw13.WashJoins", spec := "washJoins", unfollowed := true, recurses := true, plainKeys := false, apart := false, narrowed := true }
def WashJoinsUptoSaid : Prop := washJoinsUptoRow.holds Try.pinned (OpenSpec.upto washJoinsSpec)

/-- 'bellarminelaw13.WashHalves', WHERE WHAT IT READS IS OF BULK AT MOST 1048576: true; the input reads as it did. -/
def washHalvesUptoRow : OpenClaim := { program := "ytgogknjedpmcgaa", sum := "6605070c296692861e8896e51528238a3ea266b93b3339ab18d39b4d438f3521", func := "bellarmine/bellarminelaw13.WashHalves", spec := "washHalves", unfollowed := true, recurses := true, plainKeys := false, apart := false, narrowed := true }
def WashHalvesUptoSaid : Prop := washHalvesUptoRow.holds Try.pinned (OpenSpec.upto washHalvesSpec)

/-- 'bellarminelaw13.WashFriends', WHERE WHAT IT READS IS OF BULK AT MOST 1048576: true; the input reads as it did. -/
def washFriendsUptoRow : OpenClaim := { program := "ytgogknjedpmcgaa", sum := "6605070c296692861e8896e51528238a3ea266b93b3339ab18d39b4d438f3521", func := "bellarmine/bellarminelaw13.WashFriends", spec := "washFriends", unfollowed := true, recurses := true, plainKeys := false, apart := false, narrowed := true }
def WashFriendsUptoSaid : Prop := washFriendsUptoRow.holds Try.pinned (OpenSpec.upto washFriendsSpec)

/-- 'bellarminelaw13.WashSummed', WHERE WHAT IT READS IS OF BULK AT MOST 1048576: true; the input reads as it did. -/
def washSummedUptoRow : OpenClaim := { program := "ytgogknjedpmcgaa", sum := "6605070c296692861e8896e51528238a3ea266b93b3339ab18d39b4d438f3521", func := "bellarmine/bellarminelaw13.WashSummed", spec := "washSummed", unfollowed := true, recurses := true, plainKeys := false, apart := false, narrowed := true }
def WashSummedUptoSaid : Prop := washSummedUptoRow.holds Try.pinned (OpenSpec.upto washSummedSpec)

/-- 'bellarminelaw13.WashKnown', WHERE WHAT IT READS IS OF BULK AT MOST 1048576: true; the input reads as it did. -/
def washKnownUptoRow : OpenClaim := { program := "ytgogknjedpmcgaa", sum := "6605070c296692861e8896e51528238a3ea266b93b3339ab18d39b4d438f3521", func := "bellarmine/bellarminelaw13.WashKnown", spec := "washKnown", unfollowed := true, recurses := true, plainKeys := false, apart := false, narrowed := true }
def WashKnownUptoSaid : Prop := washKnownUptoRow.holds Try.pinned (OpenSpec.upto washKnownSpec)

/-- 'bellarminelaw13.WashRoots', WHERE WHAT IT READS IS OF BULK AT MOST 1048576: true; the input reads as it did. -/
def washRootsUptoRow : OpenClaim := { program := "ytgogknjedpmcgaa", sum := "6605070c296692861e8896e51528238a3ea266b93b3339ab18d39b4d438f3521", func := "bellarmine/bellarminelaw13.WashRoots", spec := "washRoots", unfollowed := true, recurses := true, plainKeys := false, apart := false, narrowed := true }
def WashRootsUptoSaid : Prop := washRootsUptoRow.holds Try.pinned (OpenSpec.upto washRootsSpec)

/-- 'bellarminelaw13.WashHalved', WHERE WHAT IT READS IS OF BULK AT MOST 1048576: true; the input reads as it did. -/
def washHalvedUptoRow : OpenClaim := { program := "ytgogknjedpmcgaa", sum := "6605070c296692861e8896e51528238a3ea266b93b3339ab18d39b4d438f3521", func := "bellarmine/bellarminelaw13.WashHalved", spec := "washHalved", unfollowed := true, recurses := true, plainKeys := false, apart := false, narrowed := true }
def WashHalvedUptoSaid : Prop := washHalvedUptoRow.holds Try.pinned (OpenSpec.upto washHalvedSpec)

/-- 'bellarminelaw13.WashWhen', WHERE WHAT IT READS IS OF BULK AT MOST 1048576: true; the input reads as it did. -/
def washWhenUptoRow : OpenClaim := { program := "ytgogknjedpmcgaa", sum := "6605070c296692861e8896e51528238a3ea266b93b3339ab18d39b4d438f3521", func := "bellarmine/bellarminelaw13.WashWhen", spec := "washWhen", unfollowed := true, recurses := true, plainKeys := false, apart := false, narrowed := true }
def WashWhenUptoSaid : Prop := washWhenUptoRow.holds Try.pinned (OpenSpec.upto washWhenSpec)

/-- 'bellarminelaw13.WashNamed', WHERE WHAT IT READS IS OF BULK AT MOST 1048576: true; the input reads as it did. -/
def washNamedUptoRow : OpenClaim := { program := "ytgogknjedpmcgaa", sum := "6605070c296692861e8896e51528238a3ea266b93b3339ab18d39b4d438f3521", func := "bellarmine/bellarminelaw13.WashNamed", spec := "washNamed", unfollowed := true, recurses := true, plainKeys := false, apart := false, narrowed := true }
def WashNamedUptoSaid : Prop := washNamedUptoRow.holds Try.pinned (OpenSpec.upto washNamedSpec)

/-- 'bellarminelaw13.WashExchanged', WHERE WHAT IT READS IS OF BULK AT MOST 1048576: true; the input reads as it did. -/
def washExchangedUptoRow : OpenClaim := { program := "ytgogknjedpmcgaa", sum := "6605070c296692861e8896e51528238a3ea266b93b3339ab18d39b4d438f3521", func := "bellarmine/bellarminelaw13.WashExchanged", spec := "washExchanged", unfollowed := true, recurses := true, plainKeys := false, apart := false, narrowed := true }
def WashExchangedUptoSaid : Prop := washExchangedUptoRow.holds Try.pinned (OpenSpec.upto washExchangedSpec)

/-- 'bellarminelaw13.WashAround', WHERE WHAT IT READS IS OF BULK AT MOST 1048576: true; the input reads as it did. -/
def washAroundUptoRow : OpenClaim := { program := "ytgogknjedpmcgaa", sum := "6605070c296692861e8896e51528238a3ea266b93b3339ab18d39b4d438f3521", func := "bellarmine/bellarminelaw13.WashAround", spec := "washAround", unfollowed := true, recurses := true, plainKeys := false, apart := false, narrowed := true }
def WashAroundUptoSaid : Prop := washAroundUptoRow.holds Try.pinned (OpenSpec.upto washAroundSpec)

end Rows
end Go.Proofs.Ytgogknjedpmcgaa
