/-
  THE LIST MACHINE, 12: cells of things that lie one after the other. No statement of the seat is proved here.
-/
import Derived.Test.YtheppipmnfjdcaaDoorLm11
set_option linter.unusedVariables false
set_option linter.unusedSimpArgs false
namespace Go.Am.G
variable [Glo]
variable {α : Type} (f : α → List LV) (sz : Nat)
omit [Glo] in
theorem flat_length (hf : ∀ a,(f a).length = sz) : ∀ l : List α,(l.flatMap f).length = l.length * sz
  | [] => by simp
  | a :: r => by rw [List.flatMap_cons,List.length_append,hf,flat_length hf r,List.length_cons,Nat.add_mul,Nat.one_mul,Nat.add_comm]
omit [Glo] in
theorem flat_drop (hf : ∀ a,(f a).length = sz) : ∀ (l : List α) (i : Nat),(l.flatMap f).drop (i * sz) = (l.drop i).flatMap f
  | [],i => by simp
  | a :: r,0 => by simp
  | a :: r,i + 1 => by
    rw [List.flatMap_cons,List.drop_succ_cons,List.drop_append,hf,← flat_drop hf r i,List.drop_of_length_le (by rw [hf,Nat.add_mul]; omega),List.nil_append]
    congr 1
    rw [Nat.add_mul]; omega
omit [Glo] in
theorem flat_seg (hf : ∀ a,(f a).length = sz) (l : List α) (i : Nat) (h : i < l.length) : ((l.flatMap f).drop (i * sz)).take sz = f l[i] := by
  rw [flat_drop f sz hf,List.drop_eq_getElem_cons h,List.flatMap_cons,List.take_append,hf,Nat.sub_self,List.take_zero,List.append_nil,List.take_of_length_le (by rw [hf]; omega)]
omit [Glo] in
theorem flat_pures (hp : ∀ a,LV.pures (f a) = true) : ∀ l : List α,LV.pures (l.flatMap f) = true := by
  have ha : ∀ a b : List LV,LV.pures a = true → LV.pures b = true → LV.pures (a ++ b) = true := by
    intro a b
    induction a with
    | nil => intro _ h; exact h
    | cons x r ih =>
      intro h1 h2
      simp only [LV.pures,Bool.and_eq_true,List.cons_append] at h1 ⊢
      exact ⟨h1.1,ih h1.2 h2⟩
  intro l
  induction l with
  | nil => rfl
  | cons a r ih => rw [List.flatMap_cons]; exact ha _ _ (hp a) ih
end Go.Am.G
