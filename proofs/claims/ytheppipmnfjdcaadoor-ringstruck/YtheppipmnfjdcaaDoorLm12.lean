/-
  THE LIST MACHINE, 12: cells of things that lie one after the other. No statement of the seat is proved here.
-/
import Derived.Test.YtheppipmnfjdcaaDoorLm11
set_option linter.unusedVariables false
set_option linter.unusedSimpArgs false
namespace Go.Am.G
variable [Glo]
variable {α : Type} (f : α → List LV) (sz : Nat)
omit [Glo] in
theorem flat_length (hf : ∀ a,(f a).length = sz) : ∀ l : List α,(l.flatMap f).length = l.length * sz
  | [] => by simp
  | a :: r => by rw [List.flatMap_cons,List.length_append,hf,flat_length hf r,List.length_cons,Nat.add_mul,Nat.one_mul,Nat.add_comm]
omit [Glo] in
theorem flat_take (hf : ∀ a,(f a).length = sz) : ∀ (l : List α) (i : Nat),(l.flatMap f).take (i * sz) = (l.take i).flatMap f
  | [],i => by simp
  | a :: r,0 => by simp
  | a :: r,i + 1 => by
    rw [List.flatMap_cons,List.take_succ_cons,List.flatMap_cons,List.take_append,hf,← flat_take hf r i,List.take_of_length_le (by rw [hf,Nat.add_mul]; omega)]
    congr 2
    rw [Nat.add_mul]; omega
omit [Glo] in
theorem flat_drop (hf : ∀ a,(f a).length = sz) : ∀ (l : List α) (i : Nat),(l.flatMap f).drop (i * sz) = (l.drop i).flatMap f
  | [],i => by simp
  | a :: r,0 => by simp
  | a :: r,i + 1 => by
    rw [List.flatMap_cons,List.drop_succ_cons,List.drop_append,hf,← flat_drop hf r i,List.drop_of_length_le (by rw [hf,Nat.add_mul]; omega),List.nil_append]
    congr 1
    rw [Nat.add_mul]; omega
omit [Glo] in
theorem flat_seg (hf : ∀ a,(f a).length = sz) (l : List α) (i : Nat) (h : i < l.length) : ((l.flatMap f).drop (i * sz)).take sz = f l[i] := by
  rw [flat_drop f sz hf,List.drop_eq_getElem_cons h,List.flatMap_cons,List.take_append,hf,Nat.sub_self,List.take_zero,List.append_nil,List.take_of_length_le (by rw [hf]; omega)]
omit [Glo] in
theorem flat_at (hf : ∀ a,(f a).length = sz) (l : List α) (i : Nat) (h : i < l.length) (j : Nat) (hj : j < sz) : (l.flatMap f)[i * sz + j]? = (f l[i])[j]? := by
  have := flat_seg f sz hf l i h
  rw [← this,List.getElem?_take,if_pos hj,List.getElem?_drop]
omit [Glo] in
theorem flat_set (hf : ∀ a,(f a).length = sz) (l : List α) (i : Nat) (h : i < l.length) (x : α) : (l.flatMap f).take (i * sz) ++ f x ++ (l.flatMap f).drop (i * sz + sz) = (l.set i x).flatMap f := by
  rw [flat_take f sz hf,show i * sz + sz = (i + 1) * sz by rw [Nat.add_mul,Nat.one_mul],flat_drop f sz hf,List.set_eq_take_append_cons_drop,if_pos h,List.flatMap_append,List.flatMap_cons,List.append_assoc]
omit [Glo] in
theorem flat_set1 (hf : ∀ a,(f a).length = sz) (l : List α) (i : Nat) (h : i < l.length) (j : Nat) (hj : j < sz) (v : LV) (x : α) (hx : f x = (f l[i]).set j v) : (l.flatMap f).take (i * sz + j) ++ [v] ++ (l.flatMap f).drop (i * sz + j + 1) = (l.set i x).flatMap f := by
  rw [← flat_set f sz hf l i h x,hx,List.set_eq_take_append_cons_drop,if_pos (by rw [hf]; exact hj)]
  have e1 : (l.flatMap f).take (i * sz + j) = (l.flatMap f).take (i * sz) ++ (f l[i]).take j := by
    rw [List.take_add,← flat_seg f sz hf l i h,List.take_take,Nat.min_eq_left (by omega)]
  have e2 : (l.flatMap f).drop (i * sz + j + 1) = (f l[i]).drop (j + 1) ++ (l.flatMap f).drop (i * sz + sz) := by
    rw [← flat_seg f sz hf l i h,Nat.add_assoc,← List.drop_drop,← List.drop_drop (i := sz) (j := i * sz)]
    generalize (l.flatMap f).drop (i * sz) = w
    rw [List.drop_take]
    conv => lhs; rw [← List.take_append_drop (sz - (j + 1)) (w.drop (j + 1))]
    rw [List.drop_drop]
    congr 2
    omega
  rw [e1,e2]
  simp
omit [Glo] in
theorem flat_pures (hp : ∀ a,LV.pures (f a) = true) : ∀ l : List α,LV.pures (l.flatMap f) = true := by
  have ha : ∀ a b : List LV,LV.pures a = true → LV.pures b = true → LV.pures (a ++ b) = true := by
    intro a b
    induction a with
    | nil => intro _ h; exact h
    | cons x r ih =>
      intro h1 h2
      simp only [LV.pures,Bool.and_eq_true,List.cons_append] at h1 ⊢
      exact ⟨h1.1,ih h1.2 h2⟩
  intro l
  induction l with
  | nil => rfl
  | cons a r ih => rw [List.flatMap_cons]; exact ha _ _ (hp a) ih
end Go.Am.G
