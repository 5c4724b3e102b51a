/-
  No cell of these rows narrows 'for every input' (looked for: loops, veiled, ifaces, maps, wideKeys, modest, calm, conditions, laid).
  DERIVED. THE GIVEN ROWS OF THIS SEAT. 8 by the template 'for every input the law returns true; each argument reads behind the call as it read before'; 0 by the template 'total and deterministic' (their statements: YtheppipmnfjdcaaTotals.lean).
  GIVEN WITH THE SEED: the statements are not yours to turn. If you find one false, say at which input.
  Laid BY PROGRAM, IN A SANDBOX (cutbox-rows.mjs): the forced cells as the released guide's own fill.sh prints them over the translation b84cfdd3a21fd8d9… (all of the seat's roots in one cut). By AI agents, Wed Nov 11 2026. No macro, syntax, notation, axiom, sorry.
-/
import Derived.Test.YtheppipmnfjdcaaChecked
import GoSem.Claim
import GoSem.ClaimJoined
import GoSem.ClaimMapViews
import Derived.JoinedTies
import Derived.KernelRfl
namespace Go.Proofs.Ytheppipmnfjdcaa
/- THE CELL 'sum', in the pinned program and in every row, IS THE sha256 OF THE DUMP (.gsa) THAT YtheppipmnfjdcaaProg.lean LOADS. Nothing in Lean hashes anything: it is a label: what it is worth is what the hold of that sum in a sandbox is worth. -/
noncomputable def Try.pinned : Pinned := { name := "ytheppipmnfjdcaa", sum := "b84cfdd3a21fd8d9ad10994dc962f79bfc59b8c608af44ac5f84090631dfc99a", checked := Try.checked }
namespace Rows
def none {H : Type} : Left H := { results := [], args := [] }

/-- 'bellarminelaw04.RingOrders': WHATEVER THE INPUT: true; the input reads as it did. -/
def ringOrdersSpec : ChangeSpec := { name := "ringOrders", fn := fun _ => fun
  | [d1, d2, d3] => { results := [.lit (.bool true)], args := [d1, d2, d3] }
  | _ => none }
def ringOrdersRow : OpenClaim := { program := "ytheppipmnfjdcaa", sum := "b84cfdd3a21fd8d9ad10994dc962f79bfc59b8c608af44ac5f84090631dfc99a", func := "bellarmine/bellarminelaw04.RingOrders", spec := "ringOrders", unfollowed := true, recurses := true, apart := false }
def RingOrdersSaid : Prop := ringOrdersRow.holds Try.pinned (OpenSpec.ofChange ringOrdersSpec)

/-- ITS FALSE NEIGHBOUR: 'it returns false'. Refute it at one input. -/
def ringOrdersWrong : ChangeSpec := { name := "ringOrders", fn := fun _ => fun
  | [d1, d2, d3] => { results := [.lit (.bool false)], args := [d1, d2, d3] }
  | _ => none }
def RingOrdersWrongFalsely : Prop := ringOrdersRow.holds Try.pinned (OpenSpec.ofChange ringOrdersWrong)

/-- 'bellarminelaw04.RingStrikes': WHATEVER THE INPUT: true; the input reads as it did. -/
def ringStrikesSpec : ChangeSpec := { name := "ringStrikes", fn := fun _ => fun
  | [d1, d2, d3] => { results := [.lit (.bool true)], args := [d1, d2, d3] }
  | _ => none }
def ringStrikesRow : OpenClaim := { program := "ytheppipmnfjdcaa", sum := "b84cfdd3a21fd8d9ad10994dc962f79bfc59b8c608af44ac5f84090631dfc99a", func := "bellarmine/bellarminelaw04.RingStrikes", spec := "ringStrikes", unfollowed := true, recurses := true, apart := false }
def RingStrikesSaid : Prop := ringStrikesRow.holds Try.pinned (OpenSpec.ofChange ringStrikesSpec)

/-- ITS FALSE NEIGHBOUR: 'it returns false'. Refute it at one input. -/
def ringStrikesWrong : ChangeSpec := { name := "ringStrikes", fn := fun _ => fun
  | [d1, d2, d3] => { results := [.lit (.bool false)], args := [d1, d2, d3] }
  | _ => none }
def RingStrikesWrongFalsely : Prop := ringStrikesRow.holds Try.pinned (OpenSpec.ofChange ringStrikesWrong)

/-- 'bellarminelaw04.RingRings': WHATEVER THE INPUT: true; the input reads as it did. -/
def ringRingsSpec : ChangeSpec := { name := "ringRings", fn := fun _ => fun
  | [d1, d2, d3] => { results := [.lit (.bool true)], args := [d1, d2, d3] }
  | _ => none }
def ringRingsRow : OpenClaim := { program := "ytheppipmnfjdcaa", sum := "b84cfdd3a21fd8d9ad10994dc962f79bfc59b8c608af44ac5f84090631dfc99a", func := "bellarmine/bellarminelaw04.RingRings", spec := "ringRings", unfollowed := true, recurses := true, apart := false }
def RingRingsSaid : Prop := ringRingsRow.holds Try.pinned (OpenSpec.ofChange ringRingsSpec)

/-- ITS FALSE NEIGHBOUR: 'it returns false'. Refute it at one input. -/
def ringRingsWrong : ChangeSpec := { name := "ringRings", fn := fun _ => fun
  | [d1, d2, d3] => { results := [.lit (.bool false)], args := [d1, d2, d3] }
  | _ => none }
def RingRingsWrongFalsely : Prop := ringRingsRow.holds Try.pinned (OpenSpec.ofChange ringRingsWrong)

/-- 'bellarminelaw04.RingAparts': WHATEVER THE INPUT: true; the input reads as it did. -/
def ringApartsSpec : ChangeSpec := { name := "ringAparts", fn := fun _ => fun
  | [d1, d2] => { results := [.lit (.bool true)], args := [d1, d2] }
  | _ => none }
def ringApartsRow : OpenClaim := { program := "ytheppipmnfjdcaa", sum := "b84cfdd3a21fd8d9ad10994dc962f79bfc59b8c608af44ac5f84090631dfc99a", func := "bellarmine/bellarminelaw04.RingAparts", spec := "ringAparts", unfollowed := true, recurses := true, apart := false }
def RingApartsSaid : Prop := ringApartsRow.holds Try.pinned (OpenSpec.ofChange ringApartsSpec)

/-- ITS FALSE NEIGHBOUR: 'it returns false'. Refute it at one input. -/
def ringApartsWrong : ChangeSpec := { name := "ringAparts", fn := fun _ => fun
  | [d1, d2] => { results := [.lit (.bool false)], args := [d1, d2] }
  | _ => none }
def RingApartsWrongFalsely : Prop := ringApartsRow.holds Try.pinned (OpenSpec.ofChange ringApartsWrong)

/-- 'bellarminelaw04.RingNamed': WHATEVER THE INPUT: true; the input reads as it did. -/
def ringNamedSpec : ChangeSpec := { name := "ringNamed", fn := fun _ => fun
  | [d1, d2, d3] => { results := [.lit (.bool true)], args := [d1, d2, d3] }
  | _ => none }
def ringNamedRow : OpenClaim := { program := "ytheppipmnfjdcaa", sum := "b84cfdd3a21fd8d9ad10994dc962f79bfc59b8c608af44ac5f84090631dfc99a", func := "bellarmine/bellarminelaw04.RingNamed", spec := "ringNamed", unfollowed := true, recurses := true, apart := false }
def RingNamedSaid : Prop := ringNamedRow.holds Try.pinned (OpenSpec.ofChange ringNamedSpec)

/-- ITS FALSE NEIGHBOUR: 'it returns false'. Refute it at one input. -/
def ringNamedWrong : ChangeSpec := { name := "ringNamed", fn := fun _ => fun
  | [d1, d2, d3] => { results := [.lit (.bool false)], args := [d1, d2, d3] }
  | _ => none }
def RingNamedWrongFalsely : Prop := ringNamedRow.holds Try.pinned (OpenSpec.ofChange ringNamedWrong)

/-- 'bellarminelaw04.RingMore': WHATEVER THE INPUT: true; the input reads as it did. -/
def ringMoreSpec : ChangeSpec := { name := "ringMore", fn := fun _ => fun
  | [d1, d2, d3] => { results := [.lit (.bool true)], args := [d1, d2, d3] }
  | _ => none }
def ringMoreRow : OpenClaim := { program := "ytheppipmnfjdcaa", sum := "b84cfdd3a21fd8d9ad10994dc962f79bfc59b8c608af44ac5f84090631dfc99a", func := "bellarmine/bellarminelaw04.RingMore", spec := "ringMore", unfollowed := true, recurses := true, apart := false }
def RingMoreSaid : Prop := ringMoreRow.holds Try.pinned (OpenSpec.ofChange ringMoreSpec)

/-- ITS FALSE NEIGHBOUR: 'it returns false'. Refute it at one input. -/
def ringMoreWrong : ChangeSpec := { name := "ringMore", fn := fun _ => fun
  | [d1, d2, d3] => { results := [.lit (.bool false)], args := [d1, d2, d3] }
  | _ => none }
def RingMoreWrongFalsely : Prop := ringMoreRow.holds Try.pinned (OpenSpec.ofChange ringMoreWrong)

/-- 'bellarminelaw04.RingKnown': WHATEVER THE INPUT: true; the input reads as it did. -/
def ringKnownSpec : ChangeSpec := { name := "ringKnown", fn := fun _ => fun
  | [] => { results := [.lit (.bool true)], args := [] }
  | _ => none }
def ringKnownRow : OpenClaim := { program := "ytheppipmnfjdcaa", sum := "b84cfdd3a21fd8d9ad10994dc962f79bfc59b8c608af44ac5f84090631dfc99a", func := "bellarmine/bellarminelaw04.RingKnown", spec := "ringKnown", unfollowed := true, recurses := true, apart := false }
def RingKnownSaid : Prop := ringKnownRow.holds Try.pinned (OpenSpec.ofChange ringKnownSpec)

/-- ITS FALSE NEIGHBOUR: 'it returns false'. Refute it at one input. -/
def ringKnownWrong : ChangeSpec := { name := "ringKnown", fn := fun _ => fun
  | [] => { results := [.lit (.bool false)], args := [] }
  | _ => none }
def RingKnownWrongFalsely : Prop := ringKnownRow.holds Try.pinned (OpenSpec.ofChange ringKnownWrong)

/-- 'bellarminelaw04.RingProved': WHATEVER THE INPUT: true; the input reads as it did. -/
def ringProvedSpec : ChangeSpec := { name := "ringProved", fn := fun _ => fun
  | [d] => { results := [.lit (.bool true)], args := [d] }
  | _ => none }
def ringProvedRow : OpenClaim := { program := "ytheppipmnfjdcaa", sum := "b84cfdd3a21fd8d9ad10994dc962f79bfc59b8c608af44ac5f84090631dfc99a", func := "bellarmine/bellarminelaw04.RingProved", spec := "ringProved", unfollowed := true, recurses := true, apart := false }
def RingProvedSaid : Prop := ringProvedRow.holds Try.pinned (OpenSpec.ofChange ringProvedSpec)

/-- ITS FALSE NEIGHBOUR: 'it returns false'. Refute it at one input. -/
def ringProvedWrong : ChangeSpec := { name := "ringProved", fn := fun _ => fun
  | [d] => { results := [.lit (.bool false)], args := [d] }
  | _ => none }
def RingProvedWrongFalsely : Prop := ringProvedRow.holds Try.pinned (OpenSpec.ofChange ringProvedWrong)

/- THE SECOND FORM. 'bulk': how many values and letters a reading holds, each counted each time it is reached (what is shared counts as often as it is met; a slice's spare places count too). A statement '..UptoSaid' is the law's where the arguments, and the package variables that the reading takes, are together of bulk at most 1048576: NARROWER than '..Said'. Prove '..Said' where nothing that the law and all that it calls make is longer than what came in: it says more and counts as full. Else prove '..UptoSaid'. A law counts once. -/
mutual
def uptoBulk {H : Type} : DataW H → Nat
  | .lit (.string bytes) => bytes.length + 1
  | .lit _ => 1
  | .nil => 1
  | .ptr d => uptoBulk d + 1
  | .slice elems spare => uptoBulkAll elems + uptoBulkAll spare + 1
  | .agg parts => uptoBulkAll parts + 1
  | .iface _ d => uptoBulk d + 1
  | .map entries => uptoBulkEntries entries + 1
  | .held _ => 1
def uptoBulkAll {H : Type} : List (DataW H) → Nat
  | [] => 0
  | d :: r => uptoBulk d + uptoBulkAll r
def uptoBulkEntries {H : Type} : List (Lit × DataW H) → Nat
  | [] => 0
  | x :: r => uptoBulkEntry x + uptoBulkEntries r
def uptoBulkEntry {H : Type} : Lit × DataW H → Nat
  | (.string bytes, d) => bytes.length + uptoBulk d + 1
  | (_, d) => uptoBulk d + 1
 end
def uptoSmall : (H : Type) → List (DataW H) → Bool := fun _ ds => decide (uptoBulkAll ds ≤ 1048576)
def OpenSpec.upto (s : _root_.Go.ChangeSpec) : _root_.Go.OpenSpec := { _root_.Go.OpenSpec.ofChange s with cond := some uptoSmall }

/-- 'bellarminelaw04.RingOrders', WHERE WHAT IT READS IS OF BULK AT MOST 1048576: true; the input reads as it did. -/
def ringOrdersUptoRow : OpenClaim := { program := "ytheppipmnfjdcaa", sum := "b84cfdd3a21fd8d9ad10994dc962f79bfc59b8c608af44ac5f84090631dfc99a", func := "bellarmine/bellarminelaw04.RingOrders", spec := "ringOrders", unfollowed := true, recurses := true, apart := false, narrowed := true }
def RingOrdersUptoSaid : Prop := ringOrdersUptoRow.holds Try.pinned (OpenSpec.upto ringOrdersSpec)

/-- 'bellarminelaw04.RingStrikes', WHERE WHAT IT READS IS OF BULK AT MOST 1048576: true; the input reads as it did. -/
def ringStrikesUptoRow : OpenClaim := { program := "ytheppipmnfjdcaa", sum := "b84cfdd3a21fd8d9ad10994dc962f79bfc59b8c608af44ac5f84090631dfc99a", func := "bellarmine/bellarminelaw04.RingStrikes", spec := "ringStrikes", unfollowed := true, recurses := true, apart := false, narrowed := true }
def RingStrikesUptoSaid : Prop := ringStrikesUptoRow.holds Try.pinned (OpenSpec.upto ringStrikesSpec)

/-- 'bellarminelaw04.RingRings', WHERE WHAT IT READS IS OF BULK AT MOST 1048576: true; the input reads as it did. -/
def ringRingsUptoRow : OpenClaim := { program := "ytheppipmnfjdcaa", sum := "b84cfdd3a21fd8d9ad10994dc962f79bfc59b8c608af44ac5f84090631dfc99a", func := "bellarmine/bellarminelaw04.RingRings", spec := "ringRings", unfollowed := true, recurses := true, apart := false, narrowed := true }
def RingRingsUptoSaid : Prop := ringRingsUptoRow.holds Try.pinned (OpenSpec.upto ringRingsSpec)

/-- 'bellarminelaw04.RingAparts', WHERE WHAT IT READS IS OF BULK AT MOST 1048576: true; the input reads as it did. -/
def ringApartsUptoRow : OpenClaim := { program := "ytheppipmnfjdcaa", sum := "b84cfdd3a21fd8d9ad10994dc962f79bfc59b8c608af44ac5f84090631dfc99a", func := "bellarmine/bellarminelaw04.RingAparts", spec := "ringAparts", unfollowed := true, recurses := true, apart := false, narrowed := true }
def RingApartsUptoSaid : Prop := ringApartsUptoRow.holds Try.pinned (OpenSpec.upto ringApartsSpec)

/-- 'bellarminelaw04.RingNamed', WHERE WHAT IT READS IS OF BULK AT MOST 1048576: true; the input reads as it did. -/
def ringNamedUptoRow : OpenClaim := { program := "ytheppipmnfjdcaa", sum := "b84cfdd3a21fd8d9ad10994dc962f79bfc59b8c608af44ac5f84090631dfc99a", func := "bellarmine/bellarminelaw04.RingNamed", spec := "ringNamed", unfollowed := true, recurses := true, apart := false, narrowed := true }
def RingNamedUptoSaid : Prop := ringNamedUptoRow.holds Try.pinned (OpenSpec.upto ringNamedSpec)

/-- 'bellarminelaw04.RingMore', WHERE WHAT IT READS IS OF BULK AT MOST 1048576: true; the input reads as it did. -/
def ringMoreUptoRow : OpenClaim := { program := "ytheppipmnfjdcaa", sum := "b84cfdd3a21fd8d9ad10994dc962f79bfc59b8c608af44ac5f84090631dfc99a", func := "bellarmine/bellarminelaw04.RingMore", spec := "ringMore", unfollowed := true, recurses := true, apart := false, narrowed := true }
def RingMoreUptoSaid : Prop := ringMoreUptoRow.holds Try.pinned (OpenSpec.upto ringMoreSpec)

/-- 'bellarminelaw04.RingKnown', WHERE WHAT IT READS IS OF BULK AT MOST 1048576: true; the input reads as it did. -/
def ringKnownUptoRow : OpenClaim := { program := "ytheppipmnfjdcaa", sum := "b84cfdd3a21fd8d9ad10994dc962f79bfc59b8c608af44ac5f84090631dfc99a", func := "bellarmine/bellarminelaw04.RingKnown", spec := "ringKnown", unfollowed := true, recurses := true, apart := false, narrowed := true }
def RingKnownUptoSaid : Prop := ringKnownUptoRow.holds Try.pinned (OpenSpec.upto ringKnownSpec)

/-- 'bellarminelaw04.RingProved', WHERE WHAT IT READS IS OF BULK AT MOST 1048576: true; the input reads as it did. -/
def ringProvedUptoRow : OpenClaim := { program := "ytheppipmnfjdcaa", sum := "b84cfdd3a21fd8d9ad10994dc962f79bfc59b8c608af44ac5f84090631dfc99a", func := "bellarmine/bellarminelaw04.RingProved", spec := "ringProved", unfollowed := true, recurses := true, apart := false, narrowed := true }
def RingProvedUptoSaid : Prop := ringProvedUptoRow.holds Try.pinned (OpenSpec.upto ringProvedSpec)

end Rows
end Go.Proofs.Ytheppipmnfjdcaa
