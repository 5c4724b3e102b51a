/-
  Plain: rings, and when all is back, and where things are: all tides are tried by the kernel. No statement of the seat is proved here.
-/
import Derived.Test.YtgogknjedpmcgaaWashP1
set_option linter.unusedVariables false
set_option linter.unusedSimpArgs false
namespace Go.Am.Wash

def mapN (b : List Nat) : List Nat → List Nat
  | [] => []
  | x :: r => nth b x :: mapN b r
/-- After how many tides all is back. -/
def bkF (t id : List Nat) : Nat → Nat → List Nat → Option Nat
  | 0, _, _ => none
  | f + 1, n, now => cond (eqN now id) (some n) (bkF t id f (n + 1) (mapN t now))
def idN : Nat → Nat → List Nat
  | 0, _ => []
  | n + 1, k => k :: idN n (k + 1)
/-- How many rings have each length. -/
def cntN : List (List Nat) → Nat → Nat
  | [], _ => 0
  | l :: r, x => cond (Nat.beq l.length x) (cntN r x + 1) (cntN r x)
def backL (c : Nat) (m step : Nat) : Nat → Nat → Option Nat
  | 0, _ => none
  | f + 1, n => cond (cond (Nat.beq c 0) true (Nat.beq (n % m) 0)) (some n) (backL c m step f (n + step))
def backA (R : List (List Nat)) : Nat → Nat → Nat → Option Nat
  | 0, _, n => some n
  | f + 1, m, n => match backL (cntN R m) m n 20 n with
    | some n' => backA R f (m + 1) n'
    | none => none
def allB (p : List Nat → Bool) : List (List Nat) → Bool
  | [] => true
  | l :: r => cond (p l) (allB p r) false
def allN (p : Nat → Bool) : List Nat → Bool
  | [] => true
  | x :: r => cond (p x) (allN p r) false
def anyHas : List (List Nat) → Nat → Bool
  | [], _ => false
  | l :: r, x => cond (hasN l x) true (anyHas r x)
def eqO : Option Nat → Nat → Bool
  | some a, b => Nat.beq a b
  | none, _ => false
def chkR (t : List Nat) (R : List (List Nat)) (n : Nat) : Bool :=
  cond (allB (fun l => cond (Nat.blt 0 l.length) (cond (Nat.blt l.length 8) (cond (Nat.beq (n % l.length) 0) (allN (fun x => Nat.blt x t.length) l) false) false) false) R)
    (cond (eqO (backA R 6 2 1) n) (cond (Nat.blt n 100) (allN (anyHas R) (idN t.length 0)) false) false) false
def chkM (t : List Nat) : Bool := match ringsP t with
  | some R => cond (both (some R) (ringsR t)) (cond (Nat.blt 0 R.length) (cond (Nat.blt R.length 8) (match bkF t (idN t.length 0) 20 1 t with
    | some n => chkR t R n
    | none => false) false) false) false
  | none => false
theorem m1 : allP 1 chkM 1 [] = true := by kernel_rfl
theorem m2 : allP 2 chkM 2 [] = true := by kernel_rfl
theorem m3 : allP 3 chkM 3 [] = true := by kernel_rfl
theorem m4 : allP 4 chkM 4 [] = true := by kernel_rfl
theorem m5 : allP 5 chkM 5 [] = true := by kernel_rfl
theorem m6_0 : allP 6 chkM 5 [0] = true := by kernel_rfl
theorem m6_1 : allP 6 chkM 5 [1] = true := by kernel_rfl
theorem m6_2 : allP 6 chkM 5 [2] = true := by kernel_rfl
theorem m6_3 : allP 6 chkM 5 [3] = true := by kernel_rfl
theorem m6_4 : allP 6 chkM 5 [4] = true := by kernel_rfl
theorem m6_5 : allP 6 chkM 5 [5] = true := by kernel_rfl
theorem allP_one (n : Nat) (P : List Nat → Bool) (d : Nat) (b : List Nat) (h : ∀ y, y < n → y ∉ b → allP n P d (b ++ [y]) = true) : allP n P (d + 1) b = true :=
  (allC_iff _ _ _ _).2 fun y _ h2 h3 => h y (by omega) h3
theorem m6 : allP 6 chkM 6 [] = true := allP_one 6 chkM 5 [] fun y hy _ => match y, hy with
  | 0, _ => m6_0 | 1, _ => m6_1 | 2, _ => m6_2 | 3, _ => m6_3 | 4, _ => m6_4 | 5, _ => m6_5
end Go.Am.Wash

