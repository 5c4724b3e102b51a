/-
  The statement 'ShareTimes' is proved: whatever the input, the call of ShareTimes returns true, and the arguments read as they did. Conditions: none.
-/
import Derived.Test.YtcckhkcchpfdoaaShareT3
import Derived.Test.YtcckhkcchpfdoaaShareT3
import Derived.Test.YtcckhkcchpfdoaaRows
import Derived.WalkKit
import Derived.ProofKit
import Derived.OpenShut
import Derived.ChangeOld
import Derived.Below
namespace Go.Proofs.Ytcckhkcchpfdoaa.shareTimes
open Go.ChangeShapes Go.WideShapes Go.ChangeAt Go.RowKit
set_option linter.unusedVariables false
set_option maxRecDepth 100000
theorem own : ownKnob Try.prog.godebug = none := by kernel_rfl
theorem laidOut : laidOutB Try.prog = true := by kernel_rfl
theorem readable : (Try.f14.params.toList.all fun t => Try.prog.readableRec t && decide (t < Try.prog.types.size)) = true := by kernel_rfl
theorem lifted (os : Os) (started : os.Started) (H : Type) (enc : TypeId × Value → H) :
    ReturnsInHanded {} Try.checked os 14 .any (Rows.shareTimesSpec.pre6 enc Try.prog Try.f14 Rows.shareTimesRow.domain false) (Rows.shareTimesSpec.post enc Try.prog Try.f14 false true false false) := by
  refine returnsInHanded_of_change (C := Try.checked) own started (by kernel_rfl) Try.func14
    (ChangeSpec.witness6 (enc := enc) (C := Try.checked) false ⟨#[],#[.agg #[.int .u8 0,.int .u8 0,.int .u8 0,.int .u8 0,.int .u8 0,.int .u8 0,.int .u8 0,.int .u8 0,.int .u8 0,.int .u8 0,.int .u8 0,.int .u8 0,.int .u8 0,.int .u8 0,.int .u8 0,.int .u8 0,.int .u8 0,.int .u8 0,.int .u8 0,.int .u8 0,.int .u8 0,.int .u8 0,.int .u8 0,.int .u8 0,.int .u8 0,.int .u8 0],.agg #[.int .u8 0,.int .u8 0,.int .u8 0,.int .u8 0,.int .u8 0,.int .u8 0],.int .u8 0,.int .u8 0],[]⟩ 8 (by kernel_rfl) (by kernel_rfl) (by kernel_rfl) (by kernel_rfl)) ?_
  intro W base args ds gs before hval0 hW hcnd _
  have hval : ∀ (j : Nat) t v,Try.f14.params[j]? = some t → args[j]? = some v → Value.okWide Try.prog W .any base t v := hval0
  have hW' := hW
  have hltW : ∀ x ∈ before,x.block < W.heap.size := fun x hx => by simpa using hW'.lt x hx
  obtain ⟨p,q,hA0,hV,rfl,hfz,hnd⟩ := hW
  have hA : DataW.TrodAll enc Try.prog W 0 (fun _ => true) true Try.f14.params.toList args.toList ds p := hA0
  have hAk := hA
  rw [Try.params14] at hA hval
  obtain ⟨v0,vs0,d0,ds0,p0,q0,hargs,rfl,rfl,h0,r0⟩ := trodAll_cons hA
  obtain ⟨v1,vs1,d1,ds1,p1,q1,rfl,rfl,rfl,h1,r1⟩ := trodAll_cons r0
  obtain ⟨v2,vs2,d2,ds2,p2,q2,rfl,rfl,rfl,h2,r2⟩ := trodAll_cons r1
  obtain ⟨v3,vs3,d3,ds3,p3,q3,rfl,rfl,rfl,h3,r3⟩ := trodAll_cons r2
  obtain ⟨rfl,rfl,rfl⟩ := trodAll_nil r3
  obtain rfl : args = #[v0,v1,v2,v3] := by cases args; simp_all
  obtain ⟨rfl,rfl⟩ := trodVars_none hV
  obtain ⟨a0,n0,m0,ok0⟩ := Go.Am.argOk_struct (n := 8) (k := 26) Try.underlying49 (by kernel_rfl) (hval 0 49 v0 rfl rfl) h0
  obtain ⟨a1,n1,m1,ok1⟩ := Go.Am.argOk_array (n := 8) (k := 6) Try.underlying46 (by kernel_rfl) (hval 1 46 v1 rfl rfl) h1
  obtain ⟨a2,rfl,rfl,rfl,w2⟩ := open_int Try.underlying5 (hval 2 5 v2 rfl rfl) h2
  have bd2 := Go.bounds_u8 w2
  obtain ⟨a3,rfl,rfl,rfl,w3⟩ := open_int Try.underlying5 (hval 3 5 v3 rfl rfl) h3
  have bd3 := Go.bounds_u8 w3
  refine (Go.Am.law_list Go.Am.Share.progOk Go.Am.Share.mixed Go.Am.Share.progL (Go.Am.Share.times_in a0 n0 m0 a1 n1 m1 a2 (by omega) a3 (by omega)) (by kernel_rfl) (fun _ => rfl) (.cons ok0 (.cons ok1 (.cons (Go.Am.argOk_int W .u8 a2) (.cons (Go.Am.argOk_int W .u8 a3) .nil))))).mono fun e W' ⟨he,bel⟩ => ?_
  subst he
  exact ⟨_,rfl,_,_,_,[],_,[],hW',trodAll_mk1 (shut_bool Try.underlying4 _),Go.Am.trodAll_below laidOut bel readable hAk (fun x hx => hltW x (by simpa using hx)),rfl,bel.frame _,fun h => by cases h⟩
theorem over : Rows.shareTimesRow.holds Try.pinned (OpenSpec.ofChange Rows.shareTimesSpec) :=
  OpenClaim.holds_of_wide 14 Try.f14 rfl rfl rfl rfl rfl rfl rfl ⟨rfl,rfl,rfl,rfl,rfl⟩ rfl rfl rfl rfl rfl (by kernel_rfl) Try.func14 (by kernel_rfl)
    (of_decide_eq_true (by kernel_rfl)) (by unfold Func.isWrapper; first | (rw [if_pos (by decide +kernel)]; kernel_rfl) | (rw [if_neg (by decide +kernel)]; exact ⟨rfl,rfl⟩))
    (fun os started H enc _ => lifted os started H enc)
theorem proved : Rows.ShareTimesSaid := over
#print axioms proved
end Go.Proofs.Ytcckhkcchpfdoaa.shareTimes
