/-
  The statement 'TopBasins' is proved: whatever the input, the call of TopBasins returns true, and the arguments read as they did. Conditions: none.
-/
import Derived.Test.YtoppeojgadbjeaaTopC23
import Derived.Test.YtoppeojgadbjeaaLaw1
import Derived.Test.YtoppeojgadbjeaaRows
import Derived.WalkKit
import Derived.ProofKit
import Derived.OpenShut
import Derived.ChangeOld
import Derived.Below
namespace Go.Proofs.Ytoppeojgadbjeaa.topBasins
open Go.ChangeShapes Go.WideShapes Go.ChangeAt Go.RowKit
set_option linter.unusedVariables false
set_option maxRecDepth 100000
theorem own : ownKnob Try.prog.godebug = none := by kernel_rfl
theorem laidOut : laidOutB Try.prog = true := by kernel_rfl
theorem readable : (Try.f4.params.toList.all fun t => Try.prog.readableRec t && decide (t < Try.prog.types.size)) = true := by kernel_rfl
theorem lifted (os : Os) (started : os.Started) (H : Type) (enc : TypeId × Value → H) :
    ReturnsInHanded {} Try.checked os 4 .any (Rows.topBasinsSpec.pre6 enc Try.prog Try.f4 Rows.topBasinsRow.domain false) (Rows.topBasinsSpec.post enc Try.prog Try.f4 false true false false) := by
  refine returnsInHanded_of_change (C := Try.checked) own started (by kernel_rfl) Try.func4
    (ChangeSpec.witness6 (enc := enc) (C := Try.checked) false ⟨#[],#[.int .u8 0,.int .u8 0,.agg #[.int .u8 0,.int .u8 0,.int .u8 0,.int .u8 0,.int .u8 0,.int .u8 0,.int .u8 0]],[]⟩ 8 (by kernel_rfl) (by kernel_rfl) (by kernel_rfl) (by kernel_rfl)) ?_
  intro W base args ds gs before hval0 hW hcnd _
  have hval : ∀ (j : Nat) t v,Try.f4.params[j]? = some t → args[j]? = some v → Value.okWide Try.prog W .any base t v := hval0
  have hW' := hW
  have hltW : ∀ x ∈ before,x.block < W.heap.size := fun x hx => by simpa using hW'.lt x hx
  obtain ⟨p,q,hA0,hV,rfl,hfz,hnd⟩ := hW
  have hA : DataW.TrodAll enc Try.prog W 0 (fun _ => true) true Try.f4.params.toList args.toList ds p := hA0
  have hAk := hA
  rw [Try.params4] at hA hval
  obtain ⟨v0,vs0,d0,ds0,p0,q0,hargs,rfl,rfl,h0,r0⟩ := trodAll_cons hA
  obtain ⟨v1,vs1,d1,ds1,p1,q1,rfl,rfl,rfl,h1,r1⟩ := trodAll_cons r0
  obtain ⟨v2,vs2,d2,ds2,p2,q2,rfl,rfl,rfl,h2,r2⟩ := trodAll_cons r1
  obtain ⟨rfl,rfl,rfl⟩ := trodAll_nil r2
  obtain rfl : args = #[v0,v1,v2] := by cases args; simp_all
  obtain ⟨rfl,rfl⟩ := trodVars_none hV
  obtain ⟨a0,rfl,rfl,rfl,w0⟩ := open_int Try.underlying5 (hval 0 5 v0 rfl rfl) h0
  have bd0 := Go.bounds_u8 w0
  obtain ⟨a1,rfl,rfl,rfl,w1⟩ := open_int Try.underlying5 (hval 1 5 v1 rfl rfl) h1
  have bd1 := Go.bounds_u8 w1
  obtain ⟨a2,n2,m2,ok2⟩ := Go.Am.argOk_array (n := 8) (k := 7) Try.underlying22 (by kernel_rfl) (hval 2 22 v2 rfl rfl) h2
  refine (Go.Am.law_list Go.Am.Top.progOk Go.Am.Top.mixed Go.Am.Top.progL (Go.Am.Top.basins_in a0 (by omega) a1 (by omega) a2 n2 m2) (by kernel_rfl) (fun _ => rfl) (.cons (Go.Am.argOk_int W .u8 a0) (.cons (Go.Am.argOk_int W .u8 a1) (.cons ok2 .nil)))).mono fun e W' ⟨he,bel⟩ => ?_
  subst he
  exact ⟨_,rfl,_,_,_,[],_,[],hW',trodAll_mk1 (shut_bool Try.underlying4 _),Go.Am.trodAll_below laidOut bel readable hAk (fun x hx => hltW x (by simpa using hx)),rfl,bel.frame _,fun h => by cases h⟩
theorem over : Rows.topBasinsRow.holds Try.pinned (OpenSpec.ofChange Rows.topBasinsSpec) :=
  OpenClaim.holds_of_wide 4 Try.f4 rfl rfl rfl rfl rfl rfl rfl ⟨rfl,rfl,rfl,rfl,rfl⟩ rfl rfl rfl rfl rfl (by kernel_rfl) Try.func4 (by kernel_rfl)
    (of_decide_eq_true (by kernel_rfl)) (by unfold Func.isWrapper; first | (rw [if_pos (by decide +kernel)]; kernel_rfl) | (rw [if_neg (by decide +kernel)]; exact ⟨rfl,rfl⟩))
    (fun os started H enc _ => lifted os started H enc)
theorem proved : Rows.TopBasinsSaid := over
#print axioms proved
end Go.Proofs.Ytoppeojgadbjeaa.topBasins
