/-
  The statement 'RingStruck' is proved: whatever the input, the call of RingStruck returns true, and the arguments read as they did. Conditions: none.
-/
import Derived.Test.YtheppipmnfjdcaaDoorRdE14
import Derived.Test.YtheppipmnfjdcaaDoorRdE14
import Derived.Test.YtheppipmnfjdcaaDoorRows
import Derived.WalkKit
import Derived.ProofKit
import Derived.OpenShut
import Derived.ChangeOld
import Derived.Below
import Derived.Test.YtheppipmnfjdcaaDoorRdE14
import Derived.Test.YtheppipmnfjdcaaDoorCards
import Derived.Test.YtheppipmnfjdcaaDoorTie
import Derived.LaidMore
import Derived.Stop.Joined
import Derived.SevenTiedAt
namespace Go.Proofs.YtheppipmnfjdcaaDoor.ringStruck
open Go.ChangeShapes Go.WideShapes Go.ChangeAt Go.RowKit
set_option linter.unusedVariables false
set_option maxRecDepth 100000
theorem own : ownKnob Tryd.prog.godebug = none := by kernel_rfl
theorem laidOut : laidOutB Tryd.prog = true := by kernel_rfl
theorem readable : (Tryd.f6.params.toList.all fun t => Tryd.prog.readableRec t && decide (t < Tryd.prog.types.size)) = true := by kernel_rfl
abbrev laidL : List (String × DataW Unit) := [("math/bits.deBruijn32tab",Rows.laid_math_bits_deBruijn32tab),("math/bits.deBruijn64tab",Rows.laid_math_bits_deBruijn64tab)]
theorem gName0 : Tryd.prog.globalNamed "math/bits.deBruijn32tab" = some 0 := by kernel_rfl
theorem gName1 : Tryd.prog.globalNamed "math/bits.deBruijn64tab" = some 1 := by kernel_rfl
theorem gType0 : (Tryd.prog.globals[0]?).map (·.type) = some 102 := by kernel_rfl
theorem gType1 : (Tryd.prog.globals[1]?).map (·.type) = some 103 := by kernel_rfl
theorem laidPlain : (laidL.all fun x => x.2.handleName?.isNone) = true := by kernel_rfl
theorem gLaid0 : laidL[0]? = some ("math/bits.deBruijn32tab",.agg (Go.Am.Ring.tab0.map fun x => .lit (.int .u8 x))) := rfl
theorem gLaid1 : laidL[1]? = some ("math/bits.deBruijn64tab",.agg (Go.Am.Ring.tab1.map fun x => .lit (.int .u8 x))) := rfl
theorem gCells {W : World} (h : laidMetH Tryd.prog laidL W) (ρ : Go.Am.PM) (g : Nat) (cs : List Go.Am.AV) (hg : [Go.Am.Ring.tab0.map (Go.Am.AV.int .u8),Go.Am.Ring.tab1.map (Go.Am.AV.int .u8)][g]? = some cs) : Go.Am.CellsAt ρ W cs ⟨g,0,0,false⟩ := by
  match g,hg with
  | 0,hg => cases hg; exact Go.Am.laid_at h laidPlain gLaid0 gName0 gType0 Tryd.underlying102 Tryd.underlying5 (by kernel_rfl) (by kernel_rfl) ρ
  | 1,hg => cases hg; exact Go.Am.laid_at h laidPlain gLaid1 gName1 gType1 Tryd.underlying103 Tryd.underlying5 (by kernel_rfl) (by kernel_rfl) ρ
  | _ + 2,hg => simp at hg
theorem gTabs : ∀ g l,Go.Am.Glo.tab g = some l → [Go.Am.Ring.tab0.map (Go.Am.AV.int .u8),Go.Am.Ring.tab1.map (Go.Am.AV.int .u8)][g]? = some l := by
  intro g l h
  match g,h with
  | 0,h => exact h
  | 1,h => exact h
  | _ + 2,h => cases h
theorem door_met (os : Os) (args : Array Value) : laidMetH Tryd.prog laidL ((World.doorLaid Tryd.prog 400 os).forCall (fun _ _ => 0) ⟨#[],args,[]⟩).memory :=
  laidMetH_of_parts3 (fuel := 8) (laidMet_of_run' 8 (by kernel_rfl) (by kernel_rfl)) (by kernel_rfl) (by kernel_rfl)
theorem lifted (os : Os) (started : os.Started) (H : Type) (enc : TypeId × Value → H) :
    ReturnsInHanded {} Tryd.checked os 6 .any (fun w args => (Rows.ringStruckSpec.pre enc Tryd.prog Tryd.f6 [] false w args ∧ laidMetH Tryd.prog laidL w) ∧ sizedMet enc Tryd.prog Tryd.f6 (OpenSpec.ofChange Rows.ringStruckSpec) false w args)
      (Rows.ringStruckSpec.post enc Tryd.prog Tryd.f6 false true false false) := by
  refine returnsInHanded_of_change_and (C := Tryd.checked) (X := fun w _ => laidMetH Tryd.prog laidL w) (fun _ _ _ hh h => h.of_heap hh) own started (by kernel_rfl) Tryd.func6
    (ChangeSpec.witness_shaped (enc := enc) (C := Tryd.checked) (os := os) (X := fun w _ => laidMetH Tryd.prog laidL w) false (World.doorLaid Tryd.prog 400 os) #[.agg #[.int .u8 0,.int .u8 0,.int .u8 0,.int .u8 0,.int .u8 0,.int .u8 0,.int .u8 0,.int .u8 0,.int .u8 0,.int .u8 0,.int .u8 0,.int .u8 0,.int .u8 0,.int .u8 0,.int .u8 0,.int .u8 0,.int .u8 0,.int .u8 0,.int .u8 0,.int .u8 0,.int .u8 0,.int .u8 0,.int .u8 0,.int .u8 0,.int .u8 0,.int .u8 0]] 8 rfl (World.shaped_of_RefB (by kernel_rfl) (by kernel_rfl)) (by kernel_rfl) (by kernel_rfl) (by kernel_rfl) (door_met os _)) ?_
  intro W base args ds gs before hval0 hW hcnd _ hL _
  have hval : ∀ (j : Nat) t v,Tryd.f6.params[j]? = some t → args[j]? = some v → Value.okWide Tryd.prog W .any base t v := hval0
  have hW' := hW
  have hltW : ∀ x ∈ before,x.block < W.heap.size := fun x hx => by simpa using hW'.lt x hx
  obtain ⟨p,q,hA0,hV,rfl,hfz,hnd⟩ := hW
  have hA : DataW.TrodAll enc Tryd.prog W 0 (fun _ => true) true Tryd.f6.params.toList args.toList ds p := hA0
  have hAk := hA
  rw [Tryd.params6] at hA hval
  obtain ⟨v0,vs0,d0,ds0,p0,q0,hargs,rfl,rfl,h0,r0⟩ := trodAll_cons hA
  obtain ⟨rfl,rfl,rfl⟩ := trodAll_nil r0
  obtain rfl : args = #[v0] := by cases args; simp_all
  obtain ⟨rfl,rfl⟩ := trodVars_none hV
  obtain ⟨a0,n0,m0,ok0⟩ := Go.Am.argOk_struct (n := 8) (k := 26) Tryd.underlying25 (by kernel_rfl) (hval 0 25 v0 rfl rfl) h0
  refine (Go.Am.law_glob Go.Am.Ring.progOk Go.Am.Ring.mixed Go.Am.Ring.progL (Go.Am.Ring.struck_in a0 n0 m0) (.cons ok0 .nil) [Go.Am.Ring.tab0.map (Go.Am.AV.int .u8),Go.Am.Ring.tab1.map (Go.Am.AV.int .u8)] (by kernel_rfl) gTabs (fun ρ g cs hg => gCells hL ρ g cs hg)).mono fun e W' ⟨he,bel⟩ => ?_
  subst he
  exact ⟨_,rfl,_,_,_,[],_,[],hW',trodAll_mk1 (shut_bool Tryd.underlying4 _),Go.Am.trodAll_below laidOut bel readable hAk (fun x hx => hltW x (by simpa using hx)),rfl,bel.frame _,fun h => by cases h⟩
theorem over : Rows.ringStruckRow.holds Tryd.pinned (OpenSpec.ofChange Rows.ringStruckSpec) :=
  OpenClaim.holds_of_wide 6 Tryd.f6 rfl rfl rfl rfl rfl rfl rfl ⟨rfl,rfl,rfl,rfl,rfl⟩ rfl rfl rfl rfl rfl (by kernel_rfl) Tryd.func6 (by kernel_rfl)
    (of_decide_eq_true (by kernel_rfl)) (by unfold Func.isWrapper; first | (rw [if_pos (by decide +kernel)]; kernel_rfl) | (rw [if_neg (by decide +kernel)]; exact ⟨rfl,rfl⟩))
    (fun os started H enc _ => lifted os started H enc)
theorem proved : Rows.RingStruckCardSaid :=
  Claim7.holds_tied_plain_at .later [] [.data,.data] true (true,"3526b361ebce7ddb1baf8f78d492afcfccea09c757237024dd67455109460362") false
    over (fun _ h => by cases h) (by kernel_rfl) (fun _ h => by cases h) ringStruck_row_tie rfl ⟨rfl,rfl⟩ (by kernel_rfl) rfl
    (fun f fn hf hfn => by
      obtain rfl : f = 6 := Option.some.inj ((show Tryd.prog.funcNamed "bellarmine/bellarminelaw04.RingStruck" = some 6 by kernel_rfl).symm.trans hf) |>.symm
      obtain rfl : fn = Tryd.f6 := (Option.some.inj (Tryd.func6.symm.trans hfn)).symm
      exact ⟨by kernel_rfl,fun j t ht => by
        rw [Tryd.params6] at ht
        have hm : t ∈ [25] := by
          have := Array.mem_of_getElem? ht
          simp at this
          first | (subst this; decide) | (rcases this with h | h <;> subst h <;> decide) | (rcases this with h | h | h <;> subst h <;> decide)
        have hall : ([25].all fun u => !Tryd.prog.wantsStandIn u) = true := by kernel_rfl
        exact (show Tryd.prog.wantsStandIn t = false by simpa using List.all_eq_true.1 hall t hm)⟩)
    (by kernel_rfl)
#print axioms proved
end Go.Proofs.YtheppipmnfjdcaaDoor.ringStruck
