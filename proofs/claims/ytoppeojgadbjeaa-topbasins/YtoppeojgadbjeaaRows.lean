/-
  No cell of these rows narrows 'for every input' (looked for: loops, veiled, ifaces, maps, wideKeys, modest, calm, conditions, laid).
  DERIVED. THE GIVEN ROWS OF THIS SEAT. 3 by the template 'for every input the law returns true; each argument reads behind the call as it read before'; 0 by the template 'total and deterministic' (their statements: YtoppeojgadbjeaaTotals.lean).
  GIVEN WITH THE SEED: the statements are not yours to turn. If you find one false, say at which input.
  Laid BY PROGRAM, IN A SANDBOX (cutbox-rows.mjs): the forced cells as the released guide's own fill.sh prints them over the translation 6e11ff4db00f9aa1… (all of the seat's roots in one cut). By AI agents, Wed Nov 11 2026. No macro, syntax, notation, axiom, sorry.
-/
import Derived.Test.YtoppeojgadbjeaaChecked
import GoSem.Claim
import GoSem.ClaimJoined
import GoSem.ClaimMapViews
import Derived.JoinedTies
import Derived.KernelRfl
namespace Go.Proofs.Ytoppeojgadbjeaa
/- THE CELL 'sum', in the pinned program and in every row, IS THE sha256 OF THE DUMP (.gsa) THAT YtoppeojgadbjeaaProg.lean LOADS. Nothing in Lean hashes anything: it is a label: what it is worth is what the hold of that sum in a sandbox is worth. -/
noncomputable def Try.pinned : Pinned := { name := "ytoppeojgadbjeaa", sum := "6e11ff4db00f9aa182977eaaba3190230de2b0498414f0ab8041ea9d732d30da", checked := Try.checked }
namespace Rows
def none {H : Type} : Left H := { results := [], args := [] }

/-- 'bellarminetop.TopNested': WHATEVER THE INPUT: true; the input reads as it did. -/
def topNestedSpec : ChangeSpec := { name := "topNested", fn := fun _ => fun
  | [d1, d2, d3] => { results := [.lit (.bool true)], args := [d1, d2, d3] }
  | _ => none }
def topNestedRow : OpenClaim := { program := "ytoppeojgadbjeaa", sum := "6e11ff4db00f9aa182977eaaba3190230de2b0498414f0ab8041ea9d732d30da", func := "bellarmine/bellarminetop.TopNested", spec := "topNested", unfollowed := true, recurses := true, apart := false }
def TopNestedSaid : Prop := topNestedRow.holds Try.pinned (OpenSpec.ofChange topNestedSpec)

/-- ITS FALSE NEIGHBOUR: 'it returns false'. Refute it at one input. -/
def topNestedWrong : ChangeSpec := { name := "topNested", fn := fun _ => fun
  | [d1, d2, d3] => { results := [.lit (.bool false)], args := [d1, d2, d3] }
  | _ => none }
def TopNestedWrongFalsely : Prop := topNestedRow.holds Try.pinned (OpenSpec.ofChange topNestedWrong)

/-- 'bellarminetop.TopBasins': WHATEVER THE INPUT: true; the input reads as it did. -/
def topBasinsSpec : ChangeSpec := { name := "topBasins", fn := fun _ => fun
  | [d1, d2, d3] => { results := [.lit (.bool true)], args := [d1, d2, d3] }
  | _ => none }
def topBasinsRow : OpenClaim := { program := "ytoppeojgadbjeaa", sum := "6e11ff4db00f9aa182977eaaba3190230de2b0498414f0ab8041ea9d732d30da", func := "bellarmine/bellarminetop.TopBasins", spec := "topBasins", unfollowed := true, recurses := true, apart := false }
def TopBasinsSaid : Prop := topBasinsRow.holds Try.pinned (OpenSpec.ofChange topBasinsSpec)

/-- ITS FALSE NEIGHBOUR: 'it returns false'. Refute it at one input. -/
def topBasinsWrong : ChangeSpec := { name := "topBasins", fn := fun _ => fun
  | [d1, d2, d3] => { results := [.lit (.bool false)], args := [d1, d2, d3] }
  | _ => none }
def TopBasinsWrongFalsely : Prop := topBasinsRow.holds Try.pinned (OpenSpec.ofChange topBasinsWrong)

/-- 'bellarminetop.TopAlike': WHATEVER THE INPUT: true; the input reads as it did. -/
def topAlikeSpec : ChangeSpec := { name := "topAlike", fn := fun _ => fun
  | [d1, d2, d3, d4] => { results := [.lit (.bool true)], args := [d1, d2, d3, d4] }
  | _ => none }
def topAlikeRow : OpenClaim := { program := "ytoppeojgadbjeaa", sum := "6e11ff4db00f9aa182977eaaba3190230de2b0498414f0ab8041ea9d732d30da", func := "bellarmine/bellarminetop.TopAlike", spec := "topAlike", unfollowed := true, recurses := true, apart := false }
def TopAlikeSaid : Prop := topAlikeRow.holds Try.pinned (OpenSpec.ofChange topAlikeSpec)

/-- ITS FALSE NEIGHBOUR: 'it returns false'. Refute it at one input. -/
def topAlikeWrong : ChangeSpec := { name := "topAlike", fn := fun _ => fun
  | [d1, d2, d3, d4] => { results := [.lit (.bool false)], args := [d1, d2, d3, d4] }
  | _ => none }
def TopAlikeWrongFalsely : Prop := topAlikeRow.holds Try.pinned (OpenSpec.ofChange topAlikeWrong)

/- THE SECOND FORM. 'bulk': how many values and letters a reading holds, each counted each time it is reached (what is shared counts as often as it is met; a slice's spare places count too). A statement '..UptoSaid' is the law's where the arguments, and the package variables that the reading takes, are together of bulk at most 1048576: NARROWER than '..Said'. Prove '..Said' where nothing that the law and all that it calls make is longer than what came in: it says more and counts as full. Else prove '..UptoSaid'. A law counts once. -/
mutual
def uptoBulk {H : Type} : DataW H → Nat
  | .lit (.string bytes) => bytes.length + 1
  | .lit _ => 1
  | .nil => 1
  | .ptr d => uptoBulk d + 1
  | .slice elems spare => uptoBulkAll elems + uptoBulkAll spare + 1
  | .agg parts => uptoBulkAll parts + 1
  | .iface _ d => uptoBulk d + 1
  | .map entries => uptoBulkEntries entries + 1
  | .held _ => 1
def uptoBulkAll {H : Type} : List (DataW H) → Nat
  | [] => 0
  | d :: r => uptoBulk d + uptoBulkAll r
def uptoBulkEntries {H : Type} : List (Lit × DataW H) → Nat
  | [] => 0
  | x :: r => uptoBulkEntry x + uptoBulkEntries r
def uptoBulkEntry {H : Type} : Lit × DataW H → Nat
  | (.string bytes, d) => bytes.length + uptoBulk d + 1
  | (_, d) => uptoBulk d + 1
 end
def uptoSmall : (H : Type) → List (DataW H) → Bool := fun _ ds => decide (uptoBulkAll ds ≤ 1048576)
def OpenSpec.upto (s : _root_.Go.ChangeSpec) : _root_.Go.OpenSpec := { _root_.Go.OpenSpec.ofChange s with cond := some uptoSmall }

/-- 'bellarminetop.TopNested', WHERE WHAT IT READS IS OF BULK AT MOST 1048576: true; the input reads as it did. -/
def topNestedUptoRow : OpenClaim := { program := "ytoppeojgadbjeaa", sum := "6e11ff4db00f9aa182977eaaba3190230de2b0498414f0ab8041ea9d732d30da", func := "bellarmine/bellarminetop.TopNested", spec := "topNested", unfollowed := true, recurses := true, apart := false, narrowed := true }
def TopNestedUptoSaid : Prop := topNestedUptoRow.holds Try.pinned (OpenSpec.upto topNestedSpec)

/-- 'bellarminetop.TopBasins', WHERE WHAT IT READS IS OF BULK AT MOST 1048576: true; the input reads as it did. -/
def topBasinsUptoRow : OpenClaim := { program := "ytoppeojgadbjeaa", sum := "6e11ff4db00f9aa182977eaaba3190230de2b0498414f0ab8041ea9d732d30da", func := "bellarmine/bellarminetop.TopBasins", spec := "topBasins", unfollowed := true, recurses := true, apart := false, narrowed := true }
def TopBasinsUptoSaid : Prop := topBasinsUptoRow.holds Try.pinned (OpenSpec.upto topBasinsSpec)

/-- 'bellarminetop.TopAlike', WHERE WHAT IT READS IS OF BULK AT MOST 1048576: true; the input reads as it did. -/
def topAlikeUptoRow : OpenClaim := { program := "ytoppeojgadbjeaa", sum := "6e11ff4db00f9aa182977eaaba3190230de2b0498414f0ab8041ea9d732d30da", func := "bellarmine/bellarminetop.TopAlike", spec := "topAlike", unfollowed := true, recurses := true, apart := false, narrowed := true }
def TopAlikeUptoSaid : Prop := topAlikeUptoRow.holds Try.pinned (OpenSpec.upto topAlikeSpec)

end Rows
end Go.Proofs.Ytoppeojgadbjeaa
