/-
  THE ABSTRACT MACHINE, 19: the same runs, told so that the kernel evaluates them in fewer steps. No statement of the seat is proved here.
-/
import Derived.Test.YtcckhkcchpfdoaaAm18
set_option linter.unusedVariables false
namespace Go.Am
section
variable {α β : Type}

/-! ### Values told to the end before they are handed on -/
def fN (n : Nat) (K : Nat → β) : β := Nat.rec (K 0) (fun p _ => K (Nat.succ p)) n
theorem fN_eq (n : Nat) (K : Nat → β) : fN n K = K n := by cases n <;> rfl
def fI (n : Int) (K : Int → β) : β := Int.casesOn n (fun a => fN a fun a => K (.ofNat a)) (fun a => fN a fun a => K (.negSucc a))
theorem fI_eq (n : Int) (K : Int → β) : fI n K = K n := by cases n <;> simp [fI, fN_eq]
/-- Recursion by a number that is large enough; where it is not, what is left is handed on as it is. -/
def most : Nat := 100000
def fLn (n : Nat) : List α → (List α → β) → β := Nat.rec (fun l K => K l) (fun _ ih l => List.casesOn l (fun K => K []) (fun a r K => ih r fun r => K (a :: r))) n
theorem fLn_eq : ∀ (n : Nat) (l : List α) (K : List α → β), fLn n l K = K l
  | 0, l, K => rfl
  | n + 1, [], K => rfl
  | n + 1, a :: r, K => fLn_eq n r fun r => K (a :: r)
def fL (l : List α) (K : List α → β) : β := fLn most l K
theorem fL_eq (l : List α) (K : List α → β) : fL l K = K l := fLn_eq _ l K
def fV0 (v : AV) (K : AV → β) : β := AV.casesOn v (fun b => Bool.casesOn b (K (.bool false)) (K (.bool true))) (fun k n => fI n fun n => K (.int k n)) (fun i o => fN i fun i => fN o fun o => K (.ptr i o)) (K .nilptr)
  (fun i o l c g => fN i fun i => fN o fun o => fN l fun l => fN c fun c => fN g fun g => K (.slice i o l c g)) (K .nilslice) (fun f a b => K (.func f a b)) (K .nilFunc) (fun cs => K (.agg cs)) (fun vs => K (.tup vs)) (K .nilIface)
theorem fV0_eq (v : AV) (K : AV → β) : fV0 v K = K v := by
  cases v with
  | bool b => cases b <;> rfl
  | _ => simp [fV0, fN_eq, fI_eq]
def fLEn (n : Nat) : List AV → (List AV → β) → β := Nat.rec (fun l K => K l) (fun _ ih l => List.casesOn l (fun K => K []) (fun a r K => fV0 a fun a => ih r fun r => K (a :: r))) n
theorem fLEn_eq : ∀ (n : Nat) (l : List AV) (K : List AV → β), fLEn n l K = K l
  | 0, l, K => rfl
  | n + 1, [], K => rfl
  | n + 1, a :: r, K => (fV0_eq a fun a => fLEn n r fun r => K (a :: r)).trans (fLEn_eq n r fun r => K (a :: r))
def fLE (l : List AV) (K : List AV → β) : β := fLEn most l K
theorem fLE_eq (l : List AV) (K : List AV → β) : fLE l K = K l := fLEn_eq _ l K
def fV (v : AV) (K : AV → β) : β := AV.casesOn v (fun b => Bool.casesOn b (K (.bool false)) (K (.bool true))) (fun k n => fI n fun n => K (.int k n)) (fun i o => fN i fun i => fN o fun o => K (.ptr i o)) (K .nilptr)
  (fun i o l c g => fN i fun i => fN o fun o => fN l fun l => fN c fun c => fN g fun g => K (.slice i o l c g)) (K .nilslice) (fun f a b => fLE a fun a => fLE b fun b => K (.func f a b)) (K .nilFunc) (fun cs => fLE cs fun cs => K (.agg cs)) (fun vs => fLE vs fun vs => K (.tup vs)) (K .nilIface)
theorem fV_eq (v : AV) (K : AV → β) : fV v K = K v := by
  cases v with
  | bool b => cases b <;> rfl
  | _ => simp [fV, fN_eq, fI_eq, fLE_eq]

/-! ### Tables -/
def getN (f : Nat) : Tr α → Nat → Option α := Nat.rec (fun t n => t.get n) (fun _ ih t => Tr.casesOn t (fun _ => none) (fun v l r n => Bool.casesOn (Nat.beq n 0) (Bool.casesOn (Nat.beq (n % 2) 1) (ih r (n / 2 - 1)) (ih l (n / 2))) v)) f
theorem getN_eq : ∀ (f : Nat) (t : Tr α) (n : Nat), getN f t n = t.get n
  | 0, t, n => rfl
  | f + 1, .leaf, n => rfl
  | f + 1, .node v l r, n => by
    show (Bool.casesOn (Nat.beq n 0) (Bool.casesOn (Nat.beq (n % 2) 1) (getN f r (n / 2 - 1)) (getN f l (n / 2))) v : Option α) = _
    rw [getN_eq f l, getN_eq f r, Tr.get]
    cases Nat.beq n 0 <;> cases Nat.beq (n % 2) 1 <;> rfl
def getR (t : Tr α) (n : Nat) : Option α := getN 64 t n
theorem getR_eq (t : Tr α) (n : Nat) : getR t n = t.get n := getN_eq _ t n
def setLeaf (ih : Tr α → Nat → α → (Tr α → β) → β) (n : Nat) (v : α) (K : Tr α → β) : β :=
  Bool.casesOn (Nat.beq n 0) (Bool.casesOn (Nat.beq (n % 2) 1) (ih .leaf (n / 2 - 1) v fun r => K (.node none .leaf r)) (ih .leaf (n / 2) v fun l => K (.node none l .leaf))) (K (.node (some v) .leaf .leaf))
def setNode (ih : Tr α → Nat → α → (Tr α → β) → β) (x : Option α) (l r : Tr α) (n : Nat) (v : α) (K : Tr α → β) : β :=
  Bool.casesOn (Nat.beq n 0) (Bool.casesOn (Nat.beq (n % 2) 1) (ih r (n / 2 - 1) v fun r => K (.node x l r)) (ih l (n / 2) v fun l => K (.node x l r))) (K (.node (some v) l r))
def setK (f : Nat) : Tr α → Nat → α → (Tr α → β) → β :=
  Nat.rec (fun t _ _ K => K t) (fun _ ih t => Tr.casesOn t (setLeaf ih) (setNode ih)) f
theorem setK_eq : ∀ (f : Nat) (t : Tr α) (n : Nat) (v : α) (K : Tr α → β), setK f t n v K = K (Tr.setF f t n v)
  | 0, t, n, v, K => rfl
  | f + 1, .leaf, n, v, K => by
    show setLeaf (setK f) n v K = _
    simp only [setLeaf, setK_eq f, Tr.setF]
    cases Nat.beq n 0 <;> cases Nat.beq (n % 2) 1 <;> rfl
  | f + 1, .node x l r, n, v, K => by
    show setNode (setK f) x l r n v K = _
    simp only [setNode, setK_eq f, Tr.setF]
    cases Nat.beq n 0 <;> cases Nat.beq (n % 2) 1 <;> rfl
def atR (e : Env) (n : Nat) : AV := Option.casesOn (getR e n) .undef (fun v => v)
theorem atR_eq (e : Env) (n : Nat) : atR e n = e.at n := by
  simp only [atR, getR_eq, Env.at]
  cases e.get n <;> rfl
def evR (e : Env) (x : Opd) : AV := Opd.casesOn x (fun n => atR e n) (fun v => v)
theorem evR_eq (e : Env) (x : Opd) : evR e x = x.ev e := by cases x <;> simp [evR, Opd.ev, atR_eq]
/-- Operands, each told to the end. -/
def evRs (e : Env) : List Opd → (List AV → β) → β
  | [], K => K []
  | x :: r, K => fV0 (evR e x) fun v => evRs e r fun vs => K (v :: vs)
theorem evRs_eq (e : Env) : ∀ (l : List Opd) (K : List AV → β), evRs e l K = K (l.map (Opd.ev e))
  | [], K => rfl
  | x :: r, K => by rw [evRs, fV0_eq, evRs_eq e r, evR_eq]; rfl
def fO (o : Option α) (d : β) (K : α → β) : β := match o with | some a => K a | none => d
theorem fO_eq (o : Option α) (d : β) (K : α → β) : fO o d K = match o with | some a => K a | none => d := by cases o <;> rfl

/-! ### Memory -/
def lookR (m : Mem) (i : Nat) : Option Blk := Mem.casesOn m fun _ tr => getR tr i
theorem lookR_eq (m : Mem) (i : Nat) : lookR m i = m.look i := by cases m; simp [lookR, Mem.look, getR_eq]
def putK (m : Mem) (i : Nat) (cs : List AV) (own : Bool) (K : Mem → β) : β := Mem.casesOn m fun nx tr => fL cs fun cs => setK (i + 1) tr i ⟨cs, own⟩ fun tr => K ⟨nx, tr⟩
theorem putK_eq (m : Mem) (i : Nat) (cs : List AV) (own : Bool) (K : Mem → β) : putK m i cs own K = K (m.put i ⟨cs, own⟩) := by
  cases m; simp [putK, fL_eq, setK_eq, Mem.put, Tr.set]
def allocK (m : Mem) (cs : List AV) (K : Nat → Mem → β) : β := Mem.casesOn m fun nx tr => fL cs fun cs => setK (nx + 1) tr nx ⟨cs, true⟩ fun tr => fN (nx + 1) fun nx' => K nx ⟨nx', tr⟩
theorem allocK_eq (m : Mem) (cs : List AV) (K : Nat → Mem → β) : allocK m cs K = K m.next (m.alloc ⟨cs, true⟩) := by
  cases m; simp [allocK, fL_eq, fN_eq, setK_eq, Mem.alloc, Tr.set]
def allocInK (m : Mem) (slot : Option Nat) (cs : List AV) (K : Nat → Mem → β) : β :=
  Option.casesOn slot (allocK m cs K) (fun r => fN r fun r => putK m r cs true fun m => K r m)
theorem allocInK_eq (m : Mem) (slot : Option Nat) (cs : List AV) (K : Nat → Mem → β) : allocInK m slot cs K = K (allocIn m slot ⟨cs, true⟩).1 (allocIn m slot ⟨cs, true⟩).2 := by
  cases slot <;> simp [allocInK, allocIn, allocK_eq, putK_eq, fN_eq]

/-! ### Numbers -/
def kNum (k : IntKind) : Nat := IntKind.casesOn k 0 1 2 3 4 5 6 7
def kEq (k l : IntKind) : Bool := Nat.beq (kNum k) (kNum l)
theorem kEq_eq (k l : IntKind) : kEq k l = (k == l) := by cases k <;> cases l <;> rfl
def limK (k : IntKind) : Nat := IntKind.casesOn k 128 32768 2147483648 9223372036854775808 256 65536 4294967296 18446744073709551616
def sgK (k : IntKind) : Bool := IntKind.casesOn k true true true true false false false false
def wrapF (k : IntKind) (n : Int) : Int := Int.casesOn n (fun a => Bool.casesOn (Nat.blt a (limK k)) (k.wrap (.ofNat a)) (.ofNat a)) (fun a => Bool.casesOn (Bool.and (sgK k) (Nat.blt a (limK k))) (k.wrap (.negSucc a)) (.negSucc a))
theorem wrap_ofNat (k : IntKind) (a : Nat) (h : a < limK k) : k.wrap (.ofNat a) = .ofNat a := by
  cases k <;> simp only [limK] at h <;> simp [IntKind.wrap, IntKind.bits, IntKind.signed] <;> omega
theorem wrap_negSucc (k : IntKind) (a : Nat) (hs : sgK k = true) (h : a < limK k) : k.wrap (.negSucc a) = .negSucc a := by
  cases k <;> first | (simp [sgK] at hs; done) | (simp only [limK] at h; simp only [IntKind.wrap, IntKind.bits, IntKind.signed, Int.negSucc_eq]; simp; omega)
theorem wrapF_eq (k : IntKind) (n : Int) : wrapF k n = k.wrap n := by
  cases n with
  | ofNat a =>
    simp only [wrapF]
    cases h : Nat.blt a (limK k)
    · rfl
    · exact (wrap_ofNat k a (by simpa [Nat.blt_eq] using h)).symm
  | negSucc a =>
    simp only [wrapF]
    cases h : Bool.and (sgK k) (Nat.blt a (limK k))
    · rfl
    · have h' : sgK k = true ∧ Nat.blt a (limK k) = true := by simpa using h
      exact (wrap_negSucc k a h'.1 (by simpa [Nat.blt_eq] using h'.2)).symm
def ltF (a b : Int) : Bool := Int.casesOn a (fun a => Int.casesOn b (fun b => Nat.blt a b) (fun _ => false)) (fun a => Int.casesOn b (fun _ => true) (fun b => Nat.blt b a))
theorem ltF_eq (a b : Int) : ltF a b = decide (a < b) := by
  rw [Bool.eq_iff_iff]
  cases a <;> cases b <;> simp [ltF, Nat.blt_eq] <;> omega
def eqF (a b : Int) : Bool := Int.casesOn a (fun a => Int.casesOn b (fun b => Nat.beq a b) (fun _ => false)) (fun a => Int.casesOn b (fun _ => false) (fun b => Nat.beq a b))
theorem eqF_eq (a b : Int) : eqF a b = (a == b) := by
  rw [Bool.eq_iff_iff]
  cases a <;> cases b <;> simp [eqF] <;> omega
def bitK (k : IntKind) (f : Nat → Nat → Nat) (slow : Int) (a b : Int) : Int :=
  Int.casesOn a (fun a => Int.casesOn b (fun b => Bool.casesOn (Bool.and (Nat.blt a (limK k)) (Nat.blt b (limK k))) slow (.ofNat (f a b))) (fun _ => slow)) (fun _ => slow)
theorem bitK_eq (k : IntKind) (f : Nat → Nat → Nat) (slow : Int → Int → Int) (h : ∀ a b : Nat, a < limK k → b < limK k → slow (.ofNat a) (.ofNat b) = .ofNat (f a b)) (a b : Int) : bitK k f (slow a b) a b = slow a b := by
  cases a with
  | negSucc a => rfl
  | ofNat a =>
    cases b with
    | negSucc b => rfl
    | ofNat b =>
      simp only [bitK]
      cases hc : Bool.and (Nat.blt a (limK k)) (Nat.blt b (limK k))
      · rfl
      · have h' : Nat.blt a (limK k) = true ∧ Nat.blt b (limK k) = true := by simpa using hc
        exact (h a b (by simpa [Nat.blt_eq] using h'.1) (by simpa [Nat.blt_eq] using h'.2)).symm
theorem limK_le (k : IntKind) : limK k ≤ 2 ^ k.bits := by cases k <;> decide
theorem toNat_ofInt (w a : Nat) (h : a < 2 ^ w) : (BitVec.ofInt w (.ofNat a)).toNat = a := by
  simp only [BitVec.ofInt, BitVec.toNat_ofNatLT]
  show (((a : Int) % ((2 ^ w : Nat) : Int)).toNat) = a
  rw [← Int.natCast_emod, Int.toNat_natCast, Nat.mod_eq_of_lt h]
theorem limK_pow (k : IntKind) : ∃ e, limK k = 2 ^ e := by
  cases k
  · exact ⟨7, rfl⟩
  · exact ⟨15, rfl⟩
  · exact ⟨31, rfl⟩
  · exact ⟨63, rfl⟩
  · exact ⟨8, rfl⟩
  · exact ⟨16, rfl⟩
  · exact ⟨32, rfl⟩
  · exact ⟨64, rfl⟩
theorem and_fast (k : IntKind) (a b : Nat) (ha : a < limK k) (hb : b < limK k) : k.wrap (BitVec.ofInt k.bits (.ofNat a) &&& BitVec.ofInt k.bits (.ofNat b)).toNat = .ofNat (Nat.land a b) := by
  rw [BitVec.toNat_and, toNat_ofInt _ _ (Nat.lt_of_lt_of_le ha (limK_le k)), toNat_ofInt _ _ (Nat.lt_of_lt_of_le hb (limK_le k))]
  obtain ⟨e, he⟩ := limK_pow k
  refine wrap_ofNat k _ ?_
  rw [he] at ha hb ⊢
  exact Nat.and_lt_two_pow _ hb
theorem or_fast (k : IntKind) (a b : Nat) (ha : a < limK k) (hb : b < limK k) : k.wrap (BitVec.ofInt k.bits (.ofNat a) ||| BitVec.ofInt k.bits (.ofNat b)).toNat = .ofNat (Nat.lor a b) := by
  rw [BitVec.toNat_or, toNat_ofInt _ _ (Nat.lt_of_lt_of_le ha (limK_le k)), toNat_ofInt _ _ (Nat.lt_of_lt_of_le hb (limK_le k))]
  obtain ⟨e, he⟩ := limK_pow k
  refine wrap_ofNat k _ ?_
  rw [he] at ha hb ⊢
  exact Nat.or_lt_two_pow ha hb
def shlF (k : IntKind) (a b : Int) : Option AV := Int.casesOn b (fun b => Int.casesOn a (fun a => some (.int k (wrapF k (.ofNat (Nat.shiftLeft a (Nat.min b k.bits)))))) (fun a => some (.int k (k.wrap (.negSucc a * 2 ^ (Nat.min b k.bits)))))) (fun _ => none)
def shrF (k : IntKind) (a b : Int) : Option AV := Int.casesOn b (fun b => Int.casesOn a (fun a => some (.int k (.ofNat (Nat.shiftRight a (Nat.min b k.bits))))) (fun a => some (.int k (Int.fdiv (.negSucc a) (2 ^ (Nat.min b k.bits)))))) (fun _ => none)
theorem dec_ofNat (b : Nat) : decide (Int.ofNat b < 0) = false := by
  rw [decide_eq_false_iff_not]; exact Int.not_lt.2 (Int.natCast_nonneg b)
theorem two_pow_nat (n : Nat) : (2 : Int) ^ n = Int.ofNat (2 ^ n) := by
  rw [Int.ofNat_eq_natCast, Int.natCast_pow]; rfl
theorem shlF_eq (k k' : IntKind) (a b : Int) : shlF k a b = aBin .shl (.int k a) (.int k' b) := by
  cases b with
  | negSucc b => simp [shlF, aBin]
  | ofNat b =>
    cases a with
    | negSucc a =>
      simp only [shlF, aBin, dec_ofNat, cond_false]; rfl
    | ofNat a =>
      simp only [shlF, aBin, wrapF_eq]
      simp only [dec_ofNat, cond_false]
      rw [show Int.ofNat a * 2 ^ (Nat.min (Int.ofNat b).toNat k.bits) = Int.ofNat (Nat.shiftLeft a (Nat.min b k.bits)) by
        rw [two_pow_nat, show Nat.shiftLeft a (Nat.min b k.bits) = a <<< (Nat.min b k.bits) from rfl, Nat.shiftLeft_eq]
        rfl]
theorem shrF_eq (k k' : IntKind) (a b : Int) : shrF k a b = aBin .shr (.int k a) (.int k' b) := by
  cases b with
  | negSucc b => simp [shrF, aBin]
  | ofNat b =>
    cases a with
    | negSucc a =>
      simp only [shrF, aBin, dec_ofNat, cond_false]; rfl
    | ofNat a =>
      simp only [shrF, aBin]
      simp only [dec_ofNat, cond_false]
      rw [show Int.fdiv (Int.ofNat a) (2 ^ (Nat.min (Int.ofNat b).toNat k.bits)) = Int.ofNat (Nat.shiftRight a (Nat.min b k.bits)) by
        rw [two_pow_nat, show Nat.shiftRight a (Nat.min b k.bits) = a >>> (Nat.min b k.bits) from rfl, Nat.shiftRight_eq_div_pow]
        exact (Int.ofNat_fdiv a _).symm]
def sameK (k k' : IntKind) (v : AV) : Option AV := Bool.casesOn (kEq k k') none (some v)
theorem sameK_eq (k k' : IntKind) (v : AV) : sameK k k' v = cond (k == k') (some v) none := by
  rw [sameK, kEq_eq]; cases k == k' <;> rfl
def addB (k : IntKind) (a : Int) (k' : IntKind) (b : Int) : Option AV := sameK k k' (.int k (wrapF k (a + b)))
def subB (k : IntKind) (a : Int) (k' : IntKind) (b : Int) : Option AV := sameK k k' (.int k (wrapF k (a - b)))
def mulB (k : IntKind) (a : Int) (k' : IntKind) (b : Int) : Option AV := sameK k k' (.int k (wrapF k (a * b)))
def andB (k : IntKind) (a : Int) (k' : IntKind) (b : Int) : Option AV := sameK k k' (.int k (bitK k Nat.land (k.wrap (BitVec.ofInt k.bits a &&& BitVec.ofInt k.bits b).toNat) a b))
def orB (k : IntKind) (a : Int) (k' : IntKind) (b : Int) : Option AV := sameK k k' (.int k (bitK k Nat.lor (k.wrap (BitVec.ofInt k.bits a ||| BitVec.ofInt k.bits b).toNat) a b))
def eqlB (k : IntKind) (a : Int) (k' : IntKind) (b : Int) : Option AV := sameK k k' (.bool (eqF a b))
def neqB (k : IntKind) (a : Int) (k' : IntKind) (b : Int) : Option AV := sameK k k' (.bool (Bool.not (eqF a b)))
def lssB (k : IntKind) (a : Int) (k' : IntKind) (b : Int) : Option AV := sameK k k' (.bool (ltF a b))
def leqB (k : IntKind) (a : Int) (k' : IntKind) (b : Int) : Option AV := sameK k k' (.bool (Bool.not (ltF b a)))
def gtrB (k : IntKind) (a : Int) (k' : IntKind) (b : Int) : Option AV := sameK k k' (.bool (ltF b a))
def geqB (k : IntKind) (a : Int) (k' : IntKind) (b : Int) : Option AV := sameK k k' (.bool (Bool.not (ltF a b)))
def shlB (k : IntKind) (a : Int) (_ : IntKind) (b : Int) : Option AV := shlF k a b
def shrB (k : IntKind) (a : Int) (_ : IntKind) (b : Int) : Option AV := shrF k a b
def otherB (op : BinOp) (k : IntKind) (a : Int) (k' : IntKind) (b : Int) : Option AV := aBin op (.int k a) (.int k' b)
def binD (op : BinOp) : IntKind → Int → IntKind → Int → Option AV :=
  match op with
  | .add => addB | .sub => subB | .mul => mulB | .and => andB | .or => orB | .eql => eqlB | .neq => neqB | .lss => lssB | .leq => leqB | .gtr => gtrB | .geq => geqB | .shl => shlB | .shr => shrB | op => otherB op
theorem binD_eq (op : BinOp) (k : IntKind) (a : Int) (k' : IntKind) (b : Int) : binD op k a k' b = aBin op (.int k a) (.int k' b) := by
  cases op <;> simp only [binD, addB, subB, mulB, andB, orB, eqlB, neqB, lssB, leqB, gtrB, geqB, shlB, shrB, otherB, sameK_eq, wrapF_eq, eqF_eq, ltF_eq, shlF_eq k k', shrF_eq k k']
  case and => rw [bitK_eq k Nat.land (fun a b => k.wrap (BitVec.ofInt k.bits a &&& BitVec.ofInt k.bits b).toNat) (and_fast k)]; rfl
  case or => rw [bitK_eq k Nat.lor (fun a b => k.wrap (BitVec.ofInt k.bits a ||| BitVec.ofInt k.bits b).toNat) (or_fast k)]; rfl
  case leq => simp only [aBin]; congr 3; rw [Bool.eq_iff_iff]; simp
  case geq => simp only [aBin]; congr 3; rw [Bool.eq_iff_iff]; simp
  all_goals rfl
def onInt (v : AV) (d : β) (K : IntKind → Int → β) : β := match v with | .int k n => K k n | _ => d
def binF (op : BinOp) (x y : AV) : Option AV := onInt x none fun k a => onInt y none fun k' b => binD op k a k' b
theorem binF_eq (op : BinOp) (x y : AV) : binF op x y = aBin op x y := by
  cases x <;> cases y <;> simp only [binF, onInt, binD_eq] <;> rfl

/-! ### Operations -/
def onBool (v : AV) (d : β) (K : Bool → β) : β := match v with | .bool b => K b | _ => d
def onPtr (v : AV) (d : β) (K : Nat → Nat → β) : β := match v with | .ptr i o => K i o | _ => d
def onAgg (v : AV) (d : β) (K : List AV → β) : β := match v with | .agg cs => K cs | _ => d
def onTup (v : AV) (d : β) (K : List AV → β) : β := match v with | .tup cs => K cs | _ => d
def onSlice (v : AV) (d : β) (K : Nat → Nat → Nat → Nat → Nat → β) : β := match v with | .slice i o l c g => K i o l c g | _ => d
def onFunc (v : AV) (d : β) (K : Nat → List AV → List AV → β) : β := match v with | .func f a b => K f a b | _ => d
def onBlk (b : Blk) (K : List AV → Bool → β) : β := match b with | ⟨cs, w⟩ => K cs w
def fC (b : Bool) (x y : β) : β := match b with | true => x | false => y
theorem fC_eq (b : Bool) (x y : β) : fC b x y = cond b x y := by cases b <;> rfl
def nthN (n : Nat) : List α → Option α := Nat.rec (fun l => List.casesOn l none (fun a _ => some a)) (fun _ ih l => List.casesOn l none (fun _ r => ih r)) n
theorem nthN_eq : ∀ (n : Nat) (l : List α), nthN n l = l[n]?
  | 0, [] => rfl
  | 0, a :: r => rfl
  | n + 1, [] => rfl
  | n + 1, a :: r => (nthN_eq n r).trans rfl
def loadF (m : Mem) (agg : Bool) (n : Nat) (a : AV) : Option AV :=
  onPtr a none fun i o => fO (lookR m i) none fun b => onBlk b fun cs _ => fC agg (fC (Nat.ble (o + n) cs.length) (some (.agg ((cs.drop o).take n))) none) (nthN o cs)
theorem loadF_eq (m : Mem) (agg : Bool) (n : Nat) (a : AV) : loadF m agg n a = loadAt m agg n a := by
  cases a <;> try rfl
  simp only [loadF, onPtr, loadAt, lookR_eq, fO_eq]
  cases m.look _ <;> simp only [onBlk, fC_eq, nthN_eq]
def updN (n : Nat) : List AV → AV → (List AV → β) → β → β := Nat.rec (fun l v K d => List.casesOn l d (fun _ r => K (v :: r))) (fun _ ih l v K d => List.casesOn l d (fun a r => ih r v (fun r => K (a :: r)) d)) n
theorem updN_eq : ∀ (n : Nat) (l : List AV) (v : AV) (K : List AV → β) (d : β), updN n l v K d = cond (Nat.ble (n + 1) l.length) (K (splice l n [v])) d
  | 0, [], v, K, d => rfl
  | 0, a :: r, v, K, d => by
    show K (v :: r) = _
    rw [show Nat.ble (0 + 1) (a :: r).length = true by simp]
    simp [splice]
  | n + 1, [], v, K, d => rfl
  | n + 1, a :: r, v, K, d => by
    show updN n r v (fun r => K (a :: r)) d = _
    rw [updN_eq n r]
    rw [show Nat.ble (n + 1 + 1) (a :: r).length = Nat.ble (n + 1) r.length by rw [Bool.eq_iff_iff]; simp]
    simp [splice]
def isOne (v : AV) : Bool := match v with | .agg _ | .tup _ => false | _ => true
def putB (m : Mem) (i : Nat) (cs : List AV) (K : Mem → β) : β := Mem.casesOn m fun nx tr => setK (i + 1) tr i ⟨cs, true⟩ fun tr => K ⟨nx, tr⟩
theorem putB_eq (m : Mem) (i : Nat) (cs : List AV) (K : Mem → β) : putB m i cs K = K (m.put i ⟨cs, true⟩) := by
  cases m; simp [putB, setK_eq, Mem.put, Tr.set]
def storeSlow (m : Mem) (n : Nat) (i o : Nat) (cs : List AV) (v : AV) (K : Mem → β) (d : β) : β :=
  fC (v.cells.length == n && (Nat.ble (o + n) cs.length && v.cells.all AV.scalar)) (putK m i (splice cs o v.cells) true K) d
def storeF (m : Mem) (n : Nat) (a v : AV) (K : Mem → β) (d : β) : β :=
  onPtr a d fun i o => fO (lookR m i) d fun b => onBlk b fun cs own => fC own (fC (isOne v && Nat.beq n 1) (updN o cs v (fun cs => putB m i cs K) d) (storeSlow m n i o cs v K d)) d
theorem storeF_eq (m : Mem) (n : Nat) (a v : AV) (K : Mem → β) (d : β) : storeF m n a v K d = match storeAt m n a v with | some m' => K m' | none => d := by
  cases a <;> try rfl
  rename_i i o
  simp only [storeF, onPtr, storeAt, lookR_eq, fO_eq]
  cases m.look i with
  | none => rfl
  | some b =>
    obtain ⟨cs, own⟩ := b
    simp only [onBlk, fC_eq]
    cases own
    · rfl
    · simp only [cond_true, Bool.true_and]
      cases h1 : isOne v && Nat.beq n 1
      · simp only [cond_false, storeSlow, fC_eq, putK_eq]
        cases v.cells.length == n && (Nat.ble (o + n) cs.length && v.cells.all AV.scalar) <;> rfl
      · simp only [cond_true, updN_eq, putB_eq]
        simp only [Bool.and_eq_true] at h1
        obtain ⟨h1, h2⟩ := h1
        have hn : n = 1 := by simpa using h2
        subst hn
        have hc : v.cells = [v] ∧ AV.scalar v = true := by cases v <;> first | exact ⟨rfl, rfl⟩ | (simp [isOne] at h1)
        rw [hc.1]
        simp only [List.length_singleton, beq_self_eq_true, List.all_cons, List.all_nil, hc.2, Bool.and_true, Bool.true_and]
        cases Nat.ble (o + 1) cs.length <;> rfl
def lenF (v : AV) : Option Nat := match v with | .nilslice => some 0 | .slice _ _ len _ _ => some len | _ => none
def cellsF (m : Mem) (size : Nat) (v : AV) : Option (List AV) :=
  match v with
  | .nilslice => some []
  | .slice i o len _ _ => fO (lookR m i) none fun b => onBlk b fun cs _ => fC (Nat.ble (o + len * size) cs.length) (some ((cs.drop o).take (len * size))) none
  | _ => none
theorem cellsF_eq (m : Mem) (size : Nat) (v : AV) : cellsF m size v = sliceCells m size v := by
  cases v <;> try rfl
  simp only [cellsF, sliceCells, lookR_eq, fO_eq]
  cases m.look _ <;> simp only [onBlk, fC_eq]
def appF (m : Mem) (size bytes : Nat) (s x : AV) (K : AV → Mem → β) (d : β) : β :=
  fO (cellsF m size s) d fun olds => fO (cellsF m size x) d fun news => fO (sliceLen s) d fun n => fO (sliceLen x) d fun k =>
    fC (Nat.beq k 0) (fC (match s with | .slice _ _ n cap _ => Nat.ble n cap | _ => true) (K s m) d) <|
    fC (Nat.ble ((n + k) * bytes) roomMost && Nat.ble (n + k) roomMost && news.all AV.scalar) (
      match s with
      | .nilslice => allocK m (olds ++ news) fun i m => K (.slice i 0 (n + k) (n + k) size) m
      | .slice i o _ cap g =>
        fO (lookR m i) d fun b => onBlk b fun cs own =>
          fC (Nat.ble (n + k) cap)
            (fC (own && Nat.ble (o + (n + k) * size) cs.length) (putK m i (splice cs (o + n * size) news) true fun m => K (.slice i o (n + k) cap g) m) d)
            (fC (Nat.beq g 0) (allocK m (olds ++ news) fun i m => K (.slice i 0 (n + k) (n + k) size) m)
              (fC (own && Nat.beq g size) (putK m i [] false fun m => allocK m (olds ++ news) fun i m => K (.slice i 0 (n + k) (n + k) size) m) d))
      | _ => d) d
theorem appF_eq (m : Mem) (size bytes : Nat) (s x : AV) (K : AV → Mem → β) (d : β) : appF m size bytes s x K d = match appendAt m size bytes s x with | some (v, m') => K v m' | none => d := by
  simp only [appF, appendAt, cellsF_eq, fO_eq, fC_eq, allocK_eq, putK_eq, lookR_eq]
  cases sliceCells m size s with
  | none => rfl
  | some olds =>
  cases sliceCells m size x with
  | none => rfl
  | some news =>
  cases sliceLen s with
  | none => rfl
  | some n =>
  cases sliceLen x with
  | none => rfl
  | some k =>
  simp only []
  cases Nat.beq k 0
  case true =>
    simp only [cond_true]
    cases s with
    | slice i o l cap g => simp only []; cases Nat.ble l cap <;> rfl
    | _ => rfl
  case false =>
  simp only [cond_false]
  cases Nat.ble ((n + k) * bytes) roomMost && Nat.ble (n + k) roomMost && news.all AV.scalar
  case false => rfl
  case true =>
  simp only [cond_true]
  cases s with
  | slice i o l cap g =>
    simp only []
    cases m.look i with
    | none => rfl
    | some b =>
      obtain ⟨cs, own⟩ := b
      simp only [onBlk]
      cases Nat.ble (n + k) cap
      case true =>
        simp only [cond_true]
        cases own && Nat.ble (o + (n + k) * size) cs.length <;> rfl
      case false =>
        simp only [cond_false]
        cases Nat.beq g 0
        case true => rfl
        case false =>
          simp only [cond_false]
          cases own && Nat.beq g size <;> rfl
  | _ => rfl
abbrev Step (β : Type) := Env → Mem → List Mem → Nat → Option Nat → (AV → Mem → β) → β → β
def sMov (x : Opd) : Step β := fun e m _ _ _ K _ => K (evR e x) m
def sPick (c a b : Opd) : Step β := fun e m _ _ _ K d => onBool (evR e c) d fun t => K (fC t (evR e a) (evR e b)) m
def sBox (x : Opd) : Step β := fun e m _ _ s K d => allocInK m s (evR e x).cells fun i m => K (.ptr i 0) m
def sZero (z : List AV) : Step β := fun e m _ _ s K d => allocInK m s z fun i m => K (.ptr i 0) m
def sLoad (agg : Bool) (n : Nat) (a : Opd) : Step β := fun e m h back _ K d => match back with
  | 0 => fO (loadF m agg n (evR e a)) d fun v => K v m
  | b + 1 => fO (loadBack agg n (evR e a) (b + 1) h none) d fun v => K v m
def sStore (n : Nat) (a x : Opd) : Step β := fun e m _ _ _ K d => storeF m n (evR e a) (evR e x) (fun m => K .undef m) d
def sNil (x : Opd) : Step β := fun e m _ _ _ K d => match evR e x with | .nilptr | .nilIface | .nilFunc => d | v => K v m
def sBin (op : BinOp) (x y : Opd) : Step β := fun e m _ _ _ K d => fO (binF op (evR e x) (evR e y)) d fun v => K v m
def sUn (op : UnOp) (x : Opd) : Step β := fun e m _ _ _ K d => fO (aUn op (evR e x)) d fun v => K v m
def sConv (k : IntKind) (x : Opd) : Step β := fun e m _ _ _ K d => onInt (evR e x) d fun _ n => K (.int k (wrapF k n)) m
def sFieldA (off : Nat) (x : Opd) : Step β := fun e m _ _ _ K d => onPtr (evR e x) d fun i o => K (.ptr i (o + off)) m
def sField (off n : Nat) (agg : Bool) (x : Opd) : Step β := fun e m _ _ _ K d => onAgg (evR e x) d fun cs => fC agg (K (.agg ((cs.drop off).take n)) m) (fO (nthN off cs) d fun v => K v m)
def natF (v : AV) : Option Nat := onInt v none fun _ n => Int.casesOn n (fun a => some a) (fun _ => none)
theorem natF_eq (v : AV) : natF v = nat? v := by
  cases v <;> try rfl
  rename_i k n
  cases n with
  | ofNat a =>
    simp only [natF, onInt, nat?]
    rw [show decide (0 ≤ Int.ofNat a) = true by simp]; rfl
  | negSucc a => rfl
def sIdxA (arr : Option Nat) (size : Nat) (x i : Opd) : Step β := fun e m _ _ _ K d => fO (natF (evR e i)) d fun j =>
  match arr with
  | some len => onPtr (evR e x) d fun b o => fC (Nat.blt j len) (K (.ptr b (o + j * size)) m) d
  | none => onSlice (evR e x) d fun b o len _ _ => fC (Nat.blt j len) (K (.ptr b (o + j * size)) m) d
def sIdx (len size : Nat) (agg : Bool) (x i : Opd) : Step β := fun e m _ _ _ K d => fO (natF (evR e i)) d fun j => onAgg (evR e x) d fun cs => fC (Nat.blt j len) (fC agg (K (.agg ((cs.drop (j * size)).take size)) m) (fO (nthN (j * size) cs) d fun v => K v m)) d
def sMkS (z : List AV) (bytes size : Nat) (l c : Opd) : Step β := fun e m _ _ s K d => fO (natF (evR e l)) d fun n => fO (natF (evR e c)) d fun k =>
  fC (Nat.ble n k && Nat.ble (k * bytes) roomMost && Nat.ble k roomMost) (fLE (zeros z (k * size)) fun cs => allocInK m s cs fun i m => K (.slice i 0 n k 0) m) d
def sBuildS (z : List AV) (len : Nat) (ps : List (Nat × Nat × Opd)) : Step β := fun e m _ _ s K d => fO (fill z (ps.map fun p => (p.1, p.2.1, evR e p.2.2))) d fun cs => fLE cs fun cs => allocInK m s cs fun i m => K (.slice i 0 len len 0) m
def sBuild (z : List AV) (ps : List (Nat × Nat × Opd)) : Step β := fun e m _ _ s K d => fO (fill z (ps.map fun p => (p.1, p.2.1, evR e p.2.2))) d fun cs => K (.agg cs) m
def sSlc (size : Nat) (x : Opd) (lo hi mx : Option Opd) : Step β := fun e m _ _ _ K d => fO (sliceOf size (evR e x) (lo.map (evR e)) (hi.map (evR e)) (mx.map (evR e))) d fun v => K v m
def sMkF (f : Nat) (xs ys : List Opd) : Step β := fun e m _ _ _ K d => evRs e xs fun xs => evRs e ys fun ys => K (.func f xs ys) m
def sExt (x : Opd) (i : Nat) : Step β := fun e m _ _ _ K d => onTup (evR e x) d fun vs => fO (nthN i vs) d fun v => K v m
def sLen (x : Opd) : Step β := fun e m _ _ _ K d => fO (sliceLen (evR e x)) d fun n => K (.int .i64 (.ofNat n)) m
def sApp (size bytes : Nat) (s x : Opd) : Step β := fun e m _ _ _ K d => appF m size bytes (evR e s) (evR e x) K d
def sGen (op : AOp) : Step β := fun e m h back slot K d => match stepOp e m h back slot op with | some (v, m') => K v m' | none => d
def stepK (op : AOp) : Step β :=
  match op with
  | .mov x => sMov x | .pick c a b => sPick c a b | .box x => sBox x | .zero z => sZero z | .load g n a => sLoad g n a | .store n a x => sStore n a x | .nilCheck x => sNil x | .bin op x y => sBin op x y
  | .un op x => sUn op x | .conv k x => sConv k x | .fieldA o x => sFieldA o x | .field o n g x => sField o n g x | .idxA a n x i => sIdxA a n x i | .idx l n g x i => sIdx l n g x i
  | .mkS z b n l c => sMkS z b n l c | .buildS z l ps => sBuildS z l ps | .build z ps => sBuild z ps | .slc n x lo hi mx => sSlc n x lo hi mx | .mkF f xs ys => sMkF f xs ys | .ext x i => sExt x i | .len x => sLen x
  | .append n b s x => sApp n b s x
  | op => sGen op
theorem evR_fun (e : Env) : evR e = Opd.ev e := funext (evR_eq e)
theorem stepK_eq (op : AOp) (e : Env) (m : Mem) (h : List Mem) (back : Nat) (slot : Option Nat) (K : AV → Mem → β) (d : β) :
    stepK op e m h back slot K d = match stepOp e m h back slot op with | some (v, m') => K v m' | none => d := by
  cases op with
  | pick c a b =>
    simp only [stepK, sPick, stepOp, evR_eq]
    cases c.ev e <;> first | rfl | (simp only [onBool, fC_eq])
  | box x => simp only [stepK, sBox, stepOp, evR_eq, allocInK_eq]
  | zero x => simp only [stepK, sZero, stepOp, allocInK_eq]
  | load g n a =>
    cases back with
    | zero => simp only [stepK, sLoad, stepOp, evR_eq, loadF_eq, fO_eq]; cases loadAt m g n (a.ev e) <;> rfl
    | succ b => simp only [stepK, sLoad, stepOp, evR_eq, fO_eq]; cases loadBack g n (a.ev e) (b + 1) h none <;> rfl
  | store n a x => simp only [stepK, sStore, stepOp, evR_eq, storeF_eq]; cases storeAt m n (a.ev e) (x.ev e) <;> rfl
  | nilCheck x => simp only [stepK, sNil, stepOp, evR_eq]; cases x.ev e <;> rfl
  | bin op x y => simp only [stepK, sBin, stepOp, evR_eq, binF_eq, fO_eq]; cases aBin op (x.ev e) (y.ev e) <;> rfl
  | un op x => simp only [stepK, sUn, stepOp, evR_eq, fO_eq]; cases aUn op (x.ev e) <;> rfl
  | conv k x => simp only [stepK, sConv, stepOp, evR_eq]; cases x.ev e <;> first | rfl | (simp only [onInt, wrapF_eq])
  | fieldA o x => simp only [stepK, sFieldA, stepOp, evR_eq]; cases x.ev e <;> rfl
  | field o n g x =>
    simp only [stepK, sField, stepOp, evR_eq]
    cases x.ev e <;> first | rfl | (rename_i cs; simp only [onAgg, fC_eq, fO_eq, nthN_eq]; cases g <;> simp only [cond_true, cond_false]; cases cs[o]? <;> rfl)
  | idxA arr n x i =>
    simp only [stepK, sIdxA, stepOp, evR_eq, natF_eq, fO_eq]
    cases nat? (i.ev e) with
    | none => rfl
    | some j =>
      cases arr <;> cases x.ev e <;> first | rfl | (simp only [onPtr, onSlice, fC_eq]; cases Nat.blt j _ <;> rfl)
  | idx l n g x i =>
    simp only [stepK, sIdx, stepOp, evR_eq, natF_eq, fO_eq]
    cases nat? (i.ev e) with
    | none => rfl
    | some j =>
      cases x.ev e <;> first | rfl | skip
      simp only [onAgg, fC_eq, nthN_eq]
      cases Nat.blt j l <;> cases g <;> simp only [cond_true, cond_false]
      split <;> simp_all
  | mkS z b n l c =>
    simp only [stepK, sMkS, stepOp, evR_eq, natF_eq, fO_eq]
    cases nat? (l.ev e) with
    | none => rfl
    | some j =>
      cases nat? (c.ev e) with
      | none => rfl
      | some k =>
        simp only [fC_eq, fLE_eq, allocInK_eq]
        cases Nat.ble j k && Nat.ble (k * b) roomMost && Nat.ble k roomMost <;> rfl
  | buildS z l ps =>
    simp only [stepK, sBuildS, stepOp, evR_fun, fO_eq, fLE_eq, allocInK_eq]
    cases fill z (ps.map fun p => (p.1, p.2.1, p.2.2.ev e)) <;> rfl
  | build z ps =>
    simp only [stepK, sBuild, stepOp, evR_fun, fO_eq]
    cases fill z (ps.map fun p => (p.1, p.2.1, p.2.2.ev e)) <;> rfl
  | slc n x lo hi mx =>
    simp only [stepK, sSlc, stepOp, evR_fun, fO_eq]
    show _ = match (match sliceOf n (Opd.ev e x) (Option.map (Opd.ev e) lo) (Option.map (Opd.ev e) hi) (Option.map (Opd.ev e) mx) with | some v => some (v, m) | none => none : Option (AV × Mem)) with | some (v, m') => K v m' | none => d
    cases sliceOf n (Opd.ev e x) (Option.map (Opd.ev e) lo) (Option.map (Opd.ev e) hi) (Option.map (Opd.ev e) mx) <;> rfl
  | mkF f xs ys => simp only [stepK, sMkF, stepOp, evRs_eq]
  | ext x i =>
    simp only [stepK, sExt, stepOp, evR_eq, fO_eq, nthN_eq]
    cases x.ev e <;> first | rfl | (rename_i vs; simp only [onTup]; cases vs[i]? <;> rfl)
  | len x => simp only [stepK, sLen, stepOp, evR_eq, fO_eq]; cases sliceLen (x.ev e) <;> rfl
  | append n b s x => simp only [stepK, sApp, stepOp, evR_eq, appF_eq]
  | mov x => simp only [stepK, sMov, stepOp, evR_eq]
  | _ => rfl

/-! ### Runs -/
abbrev CallK (β : Type) := Nat → List AV → Mem → (AV → Mem → β) → β → β
def wantF (e : Env) (g : Option (Nat × Bool)) : Bool := match g with
  | none => true
  | some (t, want) => onBool (atR e t) false fun b => fC want b (Bool.not b)
theorem wantF_eq (e : Env) (g : Option (Nat × Bool)) : wantF e g = wanted e g := by
  cases g with
  | none => rfl
  | some p =>
    obtain ⟨t, w⟩ := p
    simp only [wantF, wanted, atR_eq]
    cases e.at t <;> try rfl
    rename_i b
    cases b <;> cases w <;> rfl
def setE (e : Env) (t : Nat) (v : AV) (K : Env → β) : β := setK (t + 1) e t v K
theorem setE_eq (e : Env) (t : Nat) (v : AV) (K : Env → β) : setE e t v K = K (e.set t v) := setK_eq _ _ _ _ _
def putDK (e : Env) (d : Option Nat) (v : AV) (K : Env → β) : β := match d with | some t => setE e t v K | none => K e
theorem putDK_eq (e : Env) (d : Option Nat) (v : AV) (K : Env → β) : putDK e d v K = K (putD e d v) := by cases d <;> simp [putDK, putD, setE_eq]
def opK (cf : CallK β) (op : AOp) : Step β :=
  match op with
  | .call f args => fun e m _ _ _ K d => onFunc (evR e f) d fun g first cap => evRs e args fun vs => cf g (first ++ (vs ++ cap)) m K d
  | op => stepK op
def isCall (op : AOp) : Bool := match op with | .call _ _ => true | _ => false
def runK (cf : CallK β) (base : Nat) : List AOper → Env → Mem → List Mem → (Env → Mem → β) → β → β
  | [], e, m, _, K, _ => K e m
  | ⟨dst, op, g, back, slot, eff⟩ :: rest, e, m, h, K, d =>
    fC (wantF e g)
      (opK cf op e m h back (slot.map (base + ·)) (fun v m' => fV v fun v => putDK e dst v fun e => runK cf base rest e m' (fC (Bool.or (isCall op) eff) (m' :: h) h) K d) d)
      (putDK e dst .undef fun e => runK cf base rest e m (fC eff (m :: h) h) K d)
def Meets (cf : CallK β) (c : CallF) : Prop := ∀ f a m (K : AV → Mem → β) d, cf f a m K d = match c f a m with | some (v, m') => K v m' | none => d
theorem opK_other (cf : CallK β) (op : AOp) (h : ∀ f l, op ≠ .call f l) : opK cf op = stepK op := by
  cases op <;> first | rfl | exact absurd rfl (h _ _)
theorem isCall_other (op : AOp) (h : ∀ f l, op ≠ .call f l) : isCall op = false := by
  cases op <;> first | rfl | exact absurd rfl (h _ _)
theorem runK_eq {cf : CallK β} {c : CallF} (hc : Meets cf c) (base : Nat) : ∀ (l : List AOper) (e : Env) (m : Mem) (h : List Mem) (K : Env → Mem → β) (d : β), runK cf base l e m h K d = match runOps c base l e m h with | some (e', m') => K e' m' | none => d
  | [], e, m, h, K, d => rfl
  | ⟨dst, op, g, back, slot, eff⟩ :: rest, e, m, h, K, d => by
    rw [runK, wantF_eq, fC_eq]
    cases hw : wanted e g
    · rw [runOps_not hw, cond_false, putDK_eq, runK_eq hc base rest, fC_eq]
    · rw [cond_true]
      rcases call_or_not op with ⟨f, args, rfl⟩ | hn
      · rw [runOps_call hw rfl]
        simp only [opK, evR_eq, evRs_eq, isCall, Bool.true_or, fC_eq, cond_true]
        cases f.ev e <;> try rfl
        simp only [onFunc, hc _ _ _ _ _]
        split <;> rename_i hq <;> simp only [hq]
        rw [fV_eq, putDK_eq, runK_eq hc base rest]
      · rw [runOps_op hw hn, opK_other cf op hn, stepK_eq, isCall_other op hn, Bool.false_or]
        show (match stepOp e m h back (slot.map (base + ·)) op with | some (v, m') => _ | none => d) = _
        split
        · rename_i hq
          simp only [hq]
          rw [fV_eq, putDK_eq, runK_eq hc base rest, fC_eq]
        · rename_i hq
          simp only [hq]
def envK : Nat → List AV → Env → (Env → β) → β
  | _, [], e, K => K e
  | n, v :: r, e, K => setE e n v fun e => envK (n + 1) r e K
theorem envK_eq : ∀ (n : Nat) (l : List AV) (e : Env) (K : Env → β), envK n l e K = K (Env.ofFrom n l e)
  | _, [], e, K => rfl
  | n, v :: r, e, K => by rw [envK, setE_eq, envK_eq]; rfl
def bodyK (run : ACode → Env → Mem → (AExit → Env → Mem → β) → β → β) (C : Prog) : CallK β := fun f args m K d =>
  fO (C f) d fun af => envK 0 args .leaf fun e => run af.body e m (fun x e m => match x with
    | .exit _ => d
    | _ => fO (results af e m) d fun v => fV v fun v => K v m) d
def loopK (run : ACode → Env → Mem → (AExit → Env → Mem → β) → β → β) (b : ACode) : Env → Mem → (AExit → Env → Mem → β) → β → β := fun e m K d => run b e m (fun x e m => match x with
    | .normal => run (.loop b) e m K d
    | x => K x e m) d
def seqK (run : ACode → Env → Mem → (AExit → Env → Mem → β) → β → β) (a b : ACode) : Env → Mem → (AExit → Env → Mem → β) → β → β := fun e m K d => run a e m (fun x e m => match x with
    | .normal => run b e m K d
    | x => K x e m) d
def blockK (run : ACode → Env → Mem → (AExit → Env → Mem → β) → β → β) (id : Nat) (b : ACode) : Env → Mem → (AExit → Env → Mem → β) → β → β := fun e m K d => run b e m (fun x e m => match x with
    | .exit id' => fC (Nat.beq id' id) (K .normal e m) (K (.exit id') e m)
    | x => K x e m) d
def regK (run : ACode → Env → Mem → (AExit → Env → Mem → β) → β → β) (C : Prog) (r : Nat) (ops : List AOper) : Env → Mem → (AExit → Env → Mem → β) → β → β := fun e m K d =>
  match r with
  | 0 => runK (bodyK run C) m.next ops e m [m] (fun e m => K .normal e m) d
  | r + 1 => Mem.casesOn m fun nx tr => fN (nx + (r + 1)) fun nx' => runK (bodyK run C) nx ops e ⟨nx', tr⟩ [⟨nx', tr⟩] (fun e m => K .normal e m) d
def condK (run : ACode → Env → Mem → (AExit → Env → Mem → β) → β → β) (c : Opd) (a b : ACode) : Env → Mem → (AExit → Env → Mem → β) → β → β := fun e m K d =>
  onBool (evR e c) d fun t => fC t (run a e m K d) (run b e m K d)
def codeK (C : Prog) (run : ACode → Env → Mem → (AExit → Env → Mem → β) → β → β) (c : ACode) : Env → Mem → (AExit → Env → Mem → β) → β → β :=
  match c with
  | .skip => fun e m K _ => K .normal e m
  | .region r ops => regK run C r ops
  | .seq a b => seqK run a b
  | .cond c a b => condK run c a b
  | .block id b => blockK run id b
  | .loop b => loopK run b
  | .exit id => fun e m K _ => K (.exit id) e m
  | .ret => fun e m K _ => K .ret e m
  | .fail => fun _ _ _ d => d
def execK (C : Prog) (n : Nat) : ACode → Env → Mem → (AExit → Env → Mem → β) → β → β := Nat.rec (fun _ _ _ _ d => d) (fun _ ih c => codeK C ih c) n
theorem execK_eq (C : Prog) : ∀ (n : Nat) (c : ACode) (e : Env) (m : Mem) (K : AExit → Env → Mem → β) (d : β), execK C n c e m K d = match exec C n c e m with | some (x, e', m') => K x e' m' | none => d
  | 0, c, e, m, K, d => rfl
  | n + 1, c, e, m, K, d => by
    show codeK C (execK C n) c e m K d = _
    have hc : Meets (bodyK (execK C n) C : CallK β) (callA C n) := by
      intro f a m K d
      simp only [bodyK, fO_eq, callA, envK_eq, execK_eq C n]
      cases C f with
      | none => rfl
      | some af =>
        simp only [Env.of]
        cases exec C n af.body (Env.ofFrom 0 a .leaf) m with
        | none => rfl
        | some r =>
          obtain ⟨x, e', m'⟩ := r
          cases x <;> simp only [fV_eq] <;> first | rfl | (cases results af e' m' <;> rfl)
    cases c with
    | region r ops =>
      have h' : exec C (n + 1) (.region r ops) e m = (match runOps (callA C n) m.next ops e (m.reserve r) [m.reserve r] with | some (e', m') => some (AExit.normal, e', m') | none => none) := rfl
      rw [h']
      cases r with
      | zero =>
        show runK _ _ _ _ _ _ _ _ = _
        rw [runK_eq hc]
        show _ = match (match runOps (callA C n) m.next ops e m [m] with | some (e', m') => some (AExit.normal, e', m') | none => none : Option (AExit × Env × Mem)) with | some (x, e', m') => K x e' m' | none => d
        cases runOps (callA C n) m.next ops e m [m] <;> rfl
      | succ r =>
        obtain ⟨nx, tr⟩ := m
        show fN (nx + (r + 1)) (fun nx' => runK _ _ _ _ _ _ _ _) = _
        rw [fN_eq, runK_eq hc]
        show _ = match (match runOps (callA C n) nx ops e ⟨nx + (r + 1), tr⟩ [⟨nx + (r + 1), tr⟩] with | some (e', m') => some (AExit.normal, e', m') | none => none : Option (AExit × Env × Mem)) with | some (x, e', m') => K x e' m' | none => d
        cases runOps (callA C n) nx ops e ⟨nx + (r + 1), tr⟩ [⟨nx + (r + 1), tr⟩] <;> rfl
    | seq a b =>
      simp only [codeK, seqK, execK_eq C n]
      rw [exec]
      cases exec C n a e m with
      | none => rfl
      | some r => obtain ⟨x, e', m'⟩ := r; cases x <;> rfl
    | cond q a b =>
      simp only [codeK, condK, execK_eq C n, evR_eq]
      rw [exec]
      cases q.ev e <;> try rfl
      rename_i t
      cases t <;> rfl
    | block id b =>
      simp only [codeK, blockK, execK_eq C n]
      rw [exec]
      cases exec C n b e m with
      | none => rfl
      | some r =>
        obtain ⟨x, e', m'⟩ := r
        cases x <;> try rfl
        rename_i id'
        simp only [fC_eq]
        cases Nat.beq id' id <;> rfl
    | loop b =>
      simp only [codeK, loopK, execK_eq C n]
      rw [exec]
      cases exec C n b e m with
      | none => rfl
      | some r => obtain ⟨x, e', m'⟩ := r; cases x <;> rfl
    | _ => rfl
def callK (C : Prog) (n : Nat) : CallK β := bodyK (execK C n) C
theorem callK_eq (C : Prog) (n f : Nat) (a : List AV) (m : Mem) (K : AV → Mem → β) (d : β) : callK C n f a m K d = match callA C n f a m with | some (v, m') => K v m' | none => d := by
  simp only [callK, bodyK, fO_eq, callA, envK_eq, execK_eq C n]
  cases C f with
  | none => rfl
  | some af =>
    simp only [Env.of]
    cases exec C n af.body (Env.ofFrom 0 a .leaf) m with
    | none => rfl
    | some r =>
      obtain ⟨x, e', m'⟩ := r
      cases x <;> simp only [fV_eq] <;> first | rfl | (cases results af e' m' <;> rfl)
/-- Is it the answer true? -/
def isTrueV (v : AV) : Bool := match v with | .bool b => b | _ => false
theorem isTrue_fast {C : Prog} {n f : Nat} {a : List AV} {m : Mem} (h : callK C n f a m (fun v _ => isTrueV v) false = true) : isTrue (callA C n f a m) = true := by
  rw [callK_eq] at h
  cases hc : callA C n f a m with
  | none => rw [hc] at h; cases h
  | some r =>
    obtain ⟨v, m'⟩ := r
    rw [hc] at h
    cases v <;> first | (cases h; done) | exact (by rename_i b; cases b <;> first | (cases h; done) | rfl)
end
end Go.Am
