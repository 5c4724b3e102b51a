/-
  No cell of these rows narrows 'for every input' (looked for: loops, veiled, ifaces, maps, wideKeys, modest, calm, conditions, laid).
  DERIVED. THE GIVEN ROWS OF THIS SEAT. 5 by the template 'for every input the law returns true; each argument reads behind the call as it read before'; 0 by the template 'total and deterministic' (their statements: YthnaeifkngeenaaTotals.lean).
  GIVEN WITH THE SEED: the statements are not yours to turn. If you find one false, say at which input.
  Laid BY PROGRAM, IN A SANDBOX (cutbox-rows.mjs): the forced cells as the released guide's own fill.sh prints them over the translation 0a4cc8556e9df363… (all of the seat's roots in one cut). By AI agents, Wed Nov 11 2026. No macro, syntax, notation, axiom, sorry.
-/
import Derived.Test.YthnaeifkngeenaaChecked
import GoSem.Claim
import GoSem.ClaimJoined
import GoSem.ClaimMapViews
import Derived.JoinedTies
import Derived.KernelRfl
namespace Go.Proofs.Ythnaeifkngeenaa
/- THE CELL 'sum', in the pinned program and in every row, IS THE sha256 OF THE DUMP (.gsa) THAT YthnaeifkngeenaaProg.lean LOADS. Nothing in Lean hashes anything: it is a label: what it is worth is what the hold of that sum in a sandbox is worth. -/
noncomputable def Try.pinned : Pinned := { name := "ythnaeifkngeenaa", sum := "0a4cc8556e9df3630933256a767b4587fd90bd14367031f69271528e5313b5c4", checked := Try.checked }
namespace Rows
def none {H : Type} : Left H := { results := [], args := [] }

/-- 'bellarminelaw12.PostHands': WHATEVER THE INPUT: true; the input reads as it did. -/
def postHandsSpec : ChangeSpec := { name := "postHands", fn := fun _ => fun
  | [d1, d2, d3] => { results := [.lit (.bool true)], args := [d1, d2, d3] }
  | _ => none }
def postHandsRow : OpenClaim := { program := "ythnaeifkngeenaa", sum := "0a4cc8556e9df3630933256a767b4587fd90bd14367031f69271528e5313b5c4", func := "bellarmine/bellarminelaw12.PostHands", spec := "postHands", unfollowed := true, recurses := true, apart := false }
def PostHandsSaid : Prop := postHandsRow.holds Try.pinned (OpenSpec.ofChange postHandsSpec)

/-- ITS FALSE NEIGHBOUR: 'it returns false'. Refute it at one input. -/
def postHandsWrong : ChangeSpec := { name := "postHands", fn := fun _ => fun
  | [d1, d2, d3] => { results := [.lit (.bool false)], args := [d1, d2, d3] }
  | _ => none }
def PostHandsWrongFalsely : Prop := postHandsRow.holds Try.pinned (OpenSpec.ofChange postHandsWrong)

/-- 'bellarminelaw12.PostFewest': WHATEVER THE INPUT: true; the input reads as it did. -/
def postFewestSpec : ChangeSpec := { name := "postFewest", fn := fun _ => fun
  | [d1, d2] => { results := [.lit (.bool true)], args := [d1, d2] }
  | _ => none }
def postFewestRow : OpenClaim := { program := "ythnaeifkngeenaa", sum := "0a4cc8556e9df3630933256a767b4587fd90bd14367031f69271528e5313b5c4", func := "bellarmine/bellarminelaw12.PostFewest", spec := "postFewest", unfollowed := true, recurses := true, apart := false }
def PostFewestSaid : Prop := postFewestRow.holds Try.pinned (OpenSpec.ofChange postFewestSpec)

/-- ITS FALSE NEIGHBOUR: 'it returns false'. Refute it at one input. -/
def postFewestWrong : ChangeSpec := { name := "postFewest", fn := fun _ => fun
  | [d1, d2] => { results := [.lit (.bool false)], args := [d1, d2] }
  | _ => none }
def PostFewestWrongFalsely : Prop := postFewestRow.holds Try.pinned (OpenSpec.ofChange postFewestWrong)

/-- 'bellarminelaw12.PostCounts': WHATEVER THE INPUT: true; the input reads as it did. -/
def postCountsSpec : ChangeSpec := { name := "postCounts", fn := fun _ => fun
  | [d] => { results := [.lit (.bool true)], args := [d] }
  | _ => none }
def postCountsRow : OpenClaim := { program := "ythnaeifkngeenaa", sum := "0a4cc8556e9df3630933256a767b4587fd90bd14367031f69271528e5313b5c4", func := "bellarmine/bellarminelaw12.PostCounts", spec := "postCounts", unfollowed := true, recurses := true, apart := false }
def PostCountsSaid : Prop := postCountsRow.holds Try.pinned (OpenSpec.ofChange postCountsSpec)

/-- ITS FALSE NEIGHBOUR: 'it returns false'. Refute it at one input. -/
def postCountsWrong : ChangeSpec := { name := "postCounts", fn := fun _ => fun
  | [d] => { results := [.lit (.bool false)], args := [d] }
  | _ => none }
def PostCountsWrongFalsely : Prop := postCountsRow.holds Try.pinned (OpenSpec.ofChange postCountsWrong)

/-- 'bellarminelaw12.PostKnown': WHATEVER THE INPUT: true; the input reads as it did. -/
def postKnownSpec : ChangeSpec := { name := "postKnown", fn := fun _ => fun
  | [] => { results := [.lit (.bool true)], args := [] }
  | _ => none }
def postKnownRow : OpenClaim := { program := "ythnaeifkngeenaa", sum := "0a4cc8556e9df3630933256a767b4587fd90bd14367031f69271528e5313b5c4", func := "bellarmine/bellarminelaw12.PostKnown", spec := "postKnown", unfollowed := true, recurses := true, apart := false }
def PostKnownSaid : Prop := postKnownRow.holds Try.pinned (OpenSpec.ofChange postKnownSpec)

/-- ITS FALSE NEIGHBOUR: 'it returns false'. Refute it at one input. -/
def postKnownWrong : ChangeSpec := { name := "postKnown", fn := fun _ => fun
  | [] => { results := [.lit (.bool false)], args := [] }
  | _ => none }
def PostKnownWrongFalsely : Prop := postKnownRow.holds Try.pinned (OpenSpec.ofChange postKnownWrong)

/-- 'bellarminelaw12.PostMore': WHATEVER THE INPUT: true; the input reads as it did. -/
def postMoreSpec : ChangeSpec := { name := "postMore", fn := fun _ => fun
  | [d1, d2, d3] => { results := [.lit (.bool true)], args := [d1, d2, d3] }
  | _ => none }
def postMoreRow : OpenClaim := { program := "ythnaeifkngeenaa", sum := "0a4cc8556e9df3630933256a767b4587fd90bd14367031f69271528e5313b5c4", func := "bellarmine/bellarminelaw12.PostMore", spec := "postMore", unfollowed := true, recurses := true, apart := false }
def PostMoreSaid : Prop := postMoreRow.holds Try.pinned (OpenSpec.ofChange postMoreSpec)

/-- ITS FALSE NEIGHBOUR: 'it returns false'. Refute it at one input. -/
def postMoreWrong : ChangeSpec := { name := "postMore", fn := fun _ => fun
  | [d1, d2, d3] => { results := [.lit (.bool false)], args := [d1, d2, d3] }
  | _ => none }
def PostMoreWrongFalsely : Prop := postMoreRow.holds Try.pinned (OpenSpec.ofChange postMoreWrong)

/- THE SECOND FORM. 'bulk': how many values and letters a reading holds, each counted each time it is reached (what is shared counts as often as it is met; a slice's spare places count too). A statement '..UptoSaid' is the law's where the arguments, and the package variables that the reading takes, are together of bulk at most 1048576: NARROWER than '..Said'. Prove '..Said' where nothing that the law and all that it calls make is longer than what came in: it says more and counts as full. Else prove '..UptoSaid'. A law counts once. -/
mutual
def uptoBulk {H : Type} : DataW H → Nat
  | .lit (.string bytes) => bytes.length + 1
  | .lit _ => 1
  | .nil => 1
  | .ptr d => uptoBulk d + 1
  | .slice elems spare => uptoBulkAll elems + uptoBulkAll spare + 1
  | .agg parts => uptoBulkAll parts + 1
  | .iface _ d => uptoBulk d + 1
  | .map entries => uptoBulkEntries entries + 1
  | .held _ => 1
def uptoBulkAll {H : Type} : List (DataW H) → Nat
  | [] => 0
  | d :: r => uptoBulk d + uptoBulkAll r
def uptoBulkEntries {H : Type} : List (Lit × DataW H) → Nat
  | [] => 0
  | x :: r => uptoBulkEntry x + uptoBulkEntries r
def uptoBulkEntry {H : Type} : Lit × DataW H → Nat
  | (.string bytes, d) => bytes.length + uptoBulk d + 1
  | (_, d) => uptoBulk d + 1
 end
def uptoSmall : (H : Type) → List (DataW H) → Bool := fun _ ds => decide (uptoBulkAll ds ≤ 1048576)
def OpenSpec.upto (s : _root_.Go.ChangeSpec) : _root_.Go.OpenSpec := { _root_.Go.OpenSpec.ofChange s with cond := some uptoSmall }

/-- 'bellarminelaw12.PostHands', WHERE WHAT IT READS IS OF BULK AT MOST 1048576: true; the input reads as it did. -/
def postHandsUptoRow : OpenClaim := { program := "ythnaeifkngeenaa", sum := "0a4cc8556e9df3630933256a767b4587fd90bd14367031f69271528e5313b5c4", func := "bellarmine/bellarminelaw12.PostHands", spec := "postHands", unfollowed := true, recurses := true, apart := false, narrowed := true }
def PostHandsUptoSaid : Prop := postHandsUptoRow.holds Try.pinned (OpenSpec.upto postHandsSpec)

/-- 'bellarminelaw12.PostFewest', WHERE WHAT IT READS IS OF BULK AT MOST 1048576: true; the input reads as it did. -/
def postFewestUptoRow : OpenClaim := { program := "ythnaeifkngeenaa", sum := "0a4cc8556e9df3630933256a767b4587fd90bd14367031f69271528e5313b5c4", func := "bellarmine/bellarminelaw12.PostFewest", spec := "postFewest", unfollowed := true, recurses := true, apart := false, narrowed := true }
def PostFewestUptoSaid : Prop := postFewestUptoRow.holds Try.pinned (OpenSpec.upto postFewestSpec)

/-- 'bellarminelaw12.PostCounts', WHERE WHAT IT READS IS OF BULK AT MOST 1048576: true; the input reads as it did. -/
def postCountsUptoRow : OpenClaim := { program := "ythnaeifkngeenaa", sum := "0a4cc8556e9df3630933256a767b4587fd90bd14367031f69271528e5313b5c4", func := "bellarmine/bellarminelaw12.PostCounts", spec := "postCounts", unfollowed := true, recurses := true, apart := false, narrowed := true }
def PostCountsUptoSaid : Prop := postCountsUptoRow.holds Try.pinned (OpenSpec.upto postCountsSpec)

/-- 'bellarminelaw12.PostKnown', WHERE WHAT IT READS IS OF BULK AT MOST 1048576: true; the input reads as it did. -/
def postKnownUptoRow : OpenClaim := { program := "ythnaeifkngeenaa", sum := "0a4cc8556e9df3630933256a767b4587fd90bd14367031f69271528e5313b5c4", func := "bellarmine/bellarminelaw12.PostKnown", spec := "postKnown", unfollowed := true, recurses := true, apart := false, narrowed := true }
def PostKnownUptoSaid : Prop := postKnownUptoRow.holds Try.pinned (OpenSpec.upto postKnownSpec)

/-- 'bellarminelaw12.PostMore', WHERE WHAT IT READS IS OF BULK AT MOST 1048576: true; the input reads as it did. -/
def postMoreUptoRow : OpenClaim := { program := "ythnaeifkngeenaa", sum := "0a4cc8556e9df3630933256a767b4587fd90bd14367031f69271528e5313b5c4", func := "bellarmine/bellarminelaw12.PostMore", spec := "postMore", unfollowed := true, recurses := true, apart := false, narrowed := true }
def PostMoreUptoSaid : Prop := postMoreUptoRow.holds Try.pinned (OpenSpec.upto postMoreSpec)

end Rows
end Go.Proofs.Ythnaeifkngeenaa
