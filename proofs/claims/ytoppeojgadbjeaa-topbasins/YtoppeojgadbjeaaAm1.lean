/-
  THE ABSTRACT MACHINE, 1: its values, memory, operations and code; a run of it is a plain Lean function that the kernel can evaluate. No statement of the seat is proved here.
-/
import Derived.WalkKit
namespace Go.Am
inductive AV where
  | bool (b : Bool)
  | int (k : IntKind) (n : Int)
  | ptr (i o : Nat)
  | nilptr
  | slice (i o len cap g : Nat)
  | nilslice
  | func (f : Nat) (first cap : List AV)
  | nilFunc
  | agg (cs : List AV)
  | tup (vs : List AV)
  | nilIface
  | map (i : Nat)
  | nilmap
  | ents (es : List AV)
  | away (n b : Nat) (s x : AV)
instance : Inhabited AV := ⟨.nilFunc⟩
def AV.undef : AV := .tup []
def AV.cells : AV → List AV
  | .agg cs => cs
  | v => [v]
def AV.scalar : AV → Bool
  | .agg _ | .tup _ | .ents _ | .away .. => false
  | _ => true
mutual
def AV.beq : AV → AV → Bool
  | .bool a,.bool b => a == b
  | .int k a,.int k' b => k == k' && a == b
  | .ptr i o,.ptr i' o' => i == i' && o == o'
  | .nilptr,.nilptr => true
  | .slice i o l c g,.slice i' o' l' c' g' => i == i' && o == o' && l == l' && c == c' && g == g'
  | .nilslice,.nilslice => true
  | .func f a b,.func f' a' b' => f == f' && AV.beqs a a' && AV.beqs b b'
  | .nilFunc,.nilFunc => true
  | .agg a,.agg b => AV.beqs a b
  | .tup a,.tup b => AV.beqs a b
  | .nilIface,.nilIface => true
  | .map a,.map b => a == b
  | .nilmap,.nilmap => true
  | .ents a,.ents b => AV.beqs a b
  | .away n b s x,.away n' b' s' x' => n == n' && b == b' && AV.beq s s' && AV.beq x x'
  | _,_ => false
def AV.beqs : List AV → List AV → Bool
  | [],[] => true
  | a :: r,b :: s => AV.beq a b && AV.beqs r s
  | _,_ => false
end
mutual
theorem AV.beq_refl : ∀ a : AV,AV.beq a a = true
  | .bool _ | .int _ _ | .ptr _ _ | .nilptr | .slice .. | .nilslice | .nilFunc | .nilIface | .map _ | .nilmap => by simp [AV.beq]
  | .ents a => by simp [AV.beq,AV.beqs_refl a]
  | .away n b s x => by simp [AV.beq,AV.beq_refl s,AV.beq_refl x]
  | .func f a b => by simp [AV.beq,AV.beqs_refl a,AV.beqs_refl b]
  | .agg a => by simp [AV.beq,AV.beqs_refl a]
  | .tup a => by simp [AV.beq,AV.beqs_refl a]
theorem AV.beqs_refl : ∀ a : List AV,AV.beqs a a = true
  | [] => by simp [AV.beqs]
  | a :: r => by simp [AV.beqs,AV.beq_refl a,AV.beqs_refl r]
end
mutual
theorem AV.beq_eq : ∀ a b : AV,AV.beq a b = true → a = b
  | .bool _,b,h => by cases b <;> simp_all [AV.beq]
  | .int _ _,b,h => by cases b <;> simp_all [AV.beq]
  | .ptr _ _,b,h => by cases b <;> simp_all [AV.beq]
  | .nilptr,b,h => by cases b <;> simp_all [AV.beq]
  | .slice ..,b,h => by cases b <;> simp_all [AV.beq]
  | .nilslice,b,h => by cases b <;> simp_all [AV.beq]
  | .nilFunc,b,h => by cases b <;> simp_all [AV.beq]
  | .nilIface,b,h => by cases b <;> simp_all [AV.beq]
  | .map _,b,h => by cases b <;> simp_all [AV.beq]
  | .nilmap,b,h => by cases b <;> simp_all [AV.beq]
  | .ents x,.ents y,h => by simp only [AV.beq] at h; rw [AV.beqs_eq x y h]
  | .away n b s x,.away n' b' s' x',h => by
    simp only [AV.beq,Bool.and_eq_true,beq_iff_eq] at h
    rw [h.1.1.1,h.1.1.2,AV.beq_eq s s' h.1.2,AV.beq_eq x x' h.2]
  | .func f x y,.func f' x' y',h => by
    simp only [AV.beq,Bool.and_eq_true,beq_iff_eq] at h
    rw [h.1.1,AV.beqs_eq x x' h.1.2,AV.beqs_eq y y' h.2]
  | .agg x,.agg y,h => by simp only [AV.beq] at h; rw [AV.beqs_eq x y h]
  | .tup x,.tup y,h => by simp only [AV.beq] at h; rw [AV.beqs_eq x y h]
  | .func ..,.bool _,h | .func ..,.int ..,h | .func ..,.ptr ..,h | .func ..,.nilptr,h | .func ..,.slice ..,h | .func ..,.nilslice,h | .func ..,.nilFunc,h | .func ..,.agg ..,h | .func ..,.tup ..,h | .func ..,.nilIface,h | .func ..,.map _,h | .func ..,.nilmap,h | .func ..,.ents _,h | .func ..,.away ..,h => by simp [AV.beq] at h
  | .agg ..,.bool _,h | .agg ..,.int ..,h | .agg ..,.ptr ..,h | .agg ..,.nilptr,h | .agg ..,.slice ..,h | .agg ..,.nilslice,h | .agg ..,.nilFunc,h | .agg ..,.func ..,h | .agg ..,.tup ..,h | .agg ..,.nilIface,h | .agg ..,.map _,h | .agg ..,.nilmap,h | .agg ..,.ents _,h | .agg ..,.away ..,h => by simp [AV.beq] at h
  | .tup ..,.bool _,h | .tup ..,.int ..,h | .tup ..,.ptr ..,h | .tup ..,.nilptr,h | .tup ..,.slice ..,h | .tup ..,.nilslice,h | .tup ..,.nilFunc,h | .tup ..,.func ..,h | .tup ..,.agg ..,h | .tup ..,.nilIface,h | .tup ..,.map _,h | .tup ..,.nilmap,h | .tup ..,.ents _,h | .tup ..,.away ..,h => by simp [AV.beq] at h
  | .ents ..,.bool _,h | .ents ..,.int ..,h | .ents ..,.ptr ..,h | .ents ..,.nilptr,h | .ents ..,.slice ..,h | .ents ..,.nilslice,h | .ents ..,.func ..,h | .ents ..,.nilFunc,h | .ents ..,.agg ..,h | .ents ..,.tup ..,h | .ents ..,.nilIface,h | .ents ..,.map _,h | .ents ..,.nilmap,h | .ents ..,.away ..,h => by simp [AV.beq] at h
  | .away ..,.bool _,h | .away ..,.int ..,h | .away ..,.ptr ..,h | .away ..,.nilptr,h | .away ..,.slice ..,h | .away ..,.nilslice,h | .away ..,.func ..,h | .away ..,.nilFunc,h | .away ..,.agg ..,h | .away ..,.tup ..,h | .away ..,.nilIface,h | .away ..,.map _,h | .away ..,.nilmap,h | .away ..,.ents _,h => by simp [AV.beq] at h
theorem AV.beqs_eq : ∀ a b : List AV,AV.beqs a b = true → a = b
  | [],b,h => by cases b <;> simp_all [AV.beqs]
  | a :: r,[],h => by simp [AV.beqs] at h
  | a :: r,b :: s,h => by
    simp only [AV.beqs,Bool.and_eq_true] at h
    rw [AV.beq_eq a b h.1,AV.beqs_eq r s h.2]
end
inductive Tr (α : Type) where
  | leaf
  | node (v : Option α) (l r : Tr α)
namespace Tr
variable {α : Type}
def get : Tr α → Nat → Option α
  | .leaf,_ => none
  | .node v l r,n => cond (Nat.beq n 0) v (cond (Nat.beq (n % 2) 1) (l.get (n / 2)) (r.get (n / 2 - 1)))
def setF : Nat → Tr α → Nat → α → Tr α
  | 0,t,_,_ => t
  | f + 1,.leaf,n,v => cond (Nat.beq n 0) (.node (some v) .leaf .leaf) (cond (Nat.beq (n % 2) 1) (.node none (setF f .leaf (n / 2) v) .leaf) (.node none .leaf (setF f .leaf (n / 2 - 1) v)))
  | f + 1,.node x l r,n,v => cond (Nat.beq n 0) (.node (some v) l r) (cond (Nat.beq (n % 2) 1) (.node x (setF f l (n / 2) v) r) (.node x l (setF f r (n / 2 - 1) v)))
def set (t : Tr α) (n : Nat) (v : α) : Tr α := setF (n + 1) t n v
theorem beq0 (n : Nat) : Nat.beq n 0 = decide (n = 0) := by cases n <;> simp [Nat.beq]
theorem beq1 (n : Nat) : Nat.beq n 1 = decide (n = 1) := by
  rw [Bool.eq_iff_iff]; simp
theorem get_setF : ∀ (f n : Nat) (t : Tr α) (v : α) (m : Nat),n < f → (setF f t n v).get m = if m = n then some v else t.get m
  | 0,n,t,v,m,h => absurd h (Nat.not_lt_zero _)
  | f + 1, n, t,v,m,h => by
    by_cases hn : n = 0
    · subst hn
      cases t <;> by_cases hm : m = 0 <;> simp [setF,get,beq0,beq1,hm]
    · have hn2 : n / 2 < f := by omega
      have hn3 : n / 2 - 1 < f := by omega
      have ihl := fun (t : Tr α) (m : Nat) => get_setF f (n / 2) t v m hn2
      have ihr := fun (t : Tr α) (m : Nat) => get_setF f (n / 2 - 1) t v m hn3
      by_cases hp : n % 2 = 1
      · cases t with
        | leaf =>
          simp only [setF,beq0,beq1,hn,hp,decide_false,decide_true,cond_false,cond_true,get,ihl]
          by_cases hm : m = 0
          · simp [hm]; omega
          · by_cases hq : m % 2 = 1
            · simp only [hm,hq,decide_false,decide_true,cond_false,cond_true]
              by_cases e : m = n
              · simp [e]
              · rw [if_neg e,if_neg (by omega)]
            · simp only [hm,hq,decide_false,cond_false]
              rw [if_neg (by omega)]
        | node x l r =>
          simp only [setF,beq0,beq1,hn,hp,decide_false,decide_true,cond_false,cond_true,get,ihl]
          by_cases hm : m = 0
          · simp [hm]; omega
          · by_cases hq : m % 2 = 1
            · simp only [hm,hq,decide_false,decide_true,cond_false,cond_true]
              by_cases e : m = n
              · simp [e]
              · rw [if_neg e,if_neg (by omega)]
            · simp only [hm,hq,decide_false,cond_false]
              rw [if_neg (by omega)]
      · cases t with
        | leaf =>
          simp only [setF,beq0,beq1,hn,hp,decide_false,cond_false,get,ihr]
          by_cases hm : m = 0
          · simp [hm]; omega
          · by_cases hq : m % 2 = 1
            · simp only [hm,hq,decide_false,decide_true,cond_false,cond_true]
              rw [if_neg (by omega)]
            · simp only [hm,hq,decide_false,cond_false]
              by_cases e : m = n
              · simp [e]
              · rw [if_neg e,if_neg (by omega)]
        | node x l r =>
          simp only [setF,beq0,beq1,hn,hp,decide_false,cond_false,get,ihr]
          by_cases hm : m = 0
          · simp [hm]; omega
          · by_cases hq : m % 2 = 1
            · simp only [hm,hq,decide_false,decide_true,cond_false,cond_true]
              rw [if_neg (by omega)]
            · simp only [hm,hq,decide_false,cond_false]
              by_cases e : m = n
              · simp [e]
              · rw [if_neg e,if_neg (by omega)]
theorem get_set (t : Tr α) (n : Nat) (v : α) (m : Nat) : (t.set n v).get m = if m = n then some v else t.get m := get_setF _ _ _ _ _ (Nat.lt_succ_self n)
end Tr
abbrev Env := Tr AV
def Env.at (e : Env) (t : Nat) : AV := (e.get t).getD .undef
def Env.ofFrom : Nat → List AV → Env → Env
  | _,[],e => e
  | n,v :: r,e => Env.ofFrom (n + 1) r (e.set n v)
def Env.of (vs : List AV) : Env := Env.ofFrom 0 vs .leaf
structure Blk where
  cells : List AV
  own : Bool
structure Mem where
  next : Nat
  tr : Tr Blk
def Mem.look (m : Mem) (i : Nat) : Option Blk := m.tr.get i
def Mem.put (m : Mem) (i : Nat) (b : Blk) : Mem := ⟨m.next,m.tr.set i b⟩
def Mem.alloc (m : Mem) (b : Blk) : Mem := ⟨m.next + 1,m.tr.set m.next b⟩
def Mem.reserve (m : Mem) (n : Nat) : Mem := ⟨m.next + n,m.tr⟩
inductive Opd where
  | t (n : Nat)
  | c (v : AV)
def Opd.ev (e : Env) : Opd → AV
  | .t n => e.at n
  | .c v => v
inductive AOp where
  | mov (x : Opd)
  | pick (c a b : Opd)
  | box (x : Opd)
  | zero (cells : List AV)
  | build (zero : List AV) (parts : List (Nat × Nat × Opd))
  | buildS (zero : List AV) (len : Nat) (parts : List (Nat × Nat × Opd))
  | load (agg : Bool) (n : Nat) (a : Opd)
  | store (n : Nat) (a x : Opd)
  | nilCheck (x : Opd)
  | bin (op : BinOp) (x y : Opd)
  | eqa (neg : Bool) (n : Nat) (x y : Opd)
  | eqs (neg : Bool) (x y : Opd)
  | eqb (neg : Bool) (x y : Opd)
  | un (op : UnOp) (x : Opd)
  | conv (k : IntKind) (x : Opd)
  | fieldA (off : Nat) (x : Opd)
  | field (off n : Nat) (agg : Bool) (x : Opd)
  | idxA (arr : Option Nat) (size : Nat) (x i : Opd)
  | idx (len size : Nat) (agg : Bool) (x i : Opd)
  | mkS (zero : List AV) (bytes size : Nat) (l c : Opd)
  | slc (size : Nat) (x : Opd) (lo hi mx : Option Opd)
  | slcA (n size : Nat) (x : Opd) (lo hi : Option Opd)
  | mkF (f : Nat) (first cap : List Opd)
  | ext (x : Opd) (i : Nat)
  | len (x : Opd)
  | append (size bytes : Nat) (s x : Opd)
  | copy (size : Nat) (d s : Opd)
  | clr (z : AV) (s : Opd)
  | clrs (z : List AV) (s : Opd)
  | max (xs : List Opd)
  | min (xs : List Opd)
  | mkM
  | lookM (ck : Bool) (zero : AV) (m k : Opd)
  | putM (m k x : Opd)
  | appZ (size bytes : Nat) (s x : Opd)
  | call (f : Opd) (args : List Opd)
  | callZ (f : Opd) (args : List Opd)
  | fail
structure AOper where
  dst : Option Nat
  op : AOp
  guard : Option (Nat × Bool)
  back : Nat
  slot : Option Nat
  eff : Bool
inductive ACode where
  | skip
  | region (r : Nat) (ops : List AOper)
  | seq (a b : ACode)
  | cond (c : Opd) (a b : ACode)
  | block (id : Nat) (b : ACode)
  | loop (b : ACode)
  | exit (id : Nat)
  | ret
  | fail
inductive ARes where
  | tmp (t : Nat)
  | cell (t n : Nat) (agg : Bool)
structure AFunc where
  results : List ARes
  body : ACode
structure Rnd where
  k : Nat
  ps : List Nat
  us : List Nat
  assign : Code
  body : Code
class Glo where
  tab : Nat → Option (List AV)
  rnd : Nat → Rnd → Prop
def loadAt (m : Mem) (agg : Bool) (n : Nat) : AV → Option AV
  | .ptr i o => match m.look i with
    | some b => cond agg (cond (Nat.ble (o + n) b.cells.length) (some (.agg ((b.cells.drop o).take n))) none) b.cells[o]?
    | none => none
  | _ => none
def splice (l : List AV) (o : Nat) (vs : List AV) : List AV := l.take o ++ vs ++ l.drop (o + vs.length)
def storeAt (m : Mem) (n : Nat) (a v : AV) : Option Mem :=
  match a with
  | .ptr i o => match m.look i with
    | some b => cond (b.own && (v.cells.length == n && (Nat.ble (o + n) b.cells.length && v.cells.all AV.scalar))) (some (m.put i ⟨splice b.cells o v.cells,true⟩)) none
    | none => none
  | _ => none
def fill (cells : List AV) : List (Nat × Nat × AV) → Option (List AV)
  | [] => some cells
  | (off,size,v) :: rest => cond (v.cells.length == size && Nat.ble (off + size) cells.length) (fill (splice cells off v.cells) rest) none
def zeros (zero : List AV) (n : Nat) : List AV := (List.range n).map fun i => zero.getD (i % zero.length) .undef
def aBin (op : BinOp) (x y : AV) : Option AV :=
  match x,y with
  | .int k a,.int k' b =>
    match op with
    | .shl => cond (decide (b < 0)) none (some (.int k (k.wrap (a * 2 ^ (Nat.min b.toNat k.bits)))))
    | .shr => cond (decide (b < 0)) none (some (.int k (a.fdiv (2 ^ (Nat.min b.toNat k.bits)))))
    | op => cond (k == k') (match op with
      | .add => some (.int k (k.wrap (a + b)))
      | .sub => some (.int k (k.wrap (a - b)))
      | .mul => some (.int k (k.wrap (a * b)))
      | .quo => cond (b == 0) none (some (.int k (k.wrap (a.tdiv b))))
      | .rem => cond (b == 0) none (some (.int k (a.tmod b)))
      | .and => some (.int k (k.wrap (BitVec.ofInt k.bits a &&& BitVec.ofInt k.bits b).toNat))
      | .or => some (.int k (k.wrap (BitVec.ofInt k.bits a ||| BitVec.ofInt k.bits b).toNat))
      | .xor => some (.int k (k.wrap (BitVec.ofInt k.bits a ^^^ BitVec.ofInt k.bits b).toNat))
      | .andNot => some (.int k (k.wrap (BitVec.ofInt k.bits a &&& ~~~ BitVec.ofInt k.bits b).toNat))
      | .eql => some (.bool (a == b))
      | .neq => some (.bool (a != b))
      | .lss => some (.bool (decide (a < b)))
      | .leq => some (.bool (decide (a ≤ b)))
      | .gtr => some (.bool (decide (a > b)))
      | .geq => some (.bool (decide (a ≥ b)))
      | _ => none) none
  | _,_ => none
def aEqs (x y : AV) : Option Bool :=
  match x,y with
  | .slice ..,.nilslice => some false
  | .nilslice,.slice .. => some false
  | .nilslice,.nilslice => some true
  | _,_ => none
def aUn (op : UnOp) (x : AV) : Option AV :=
  match op,x with
  | .neg,.int k n => some (.int k (k.wrap (0 - n)))
  | .not,.bool b => some (.bool !b)
  | _,_ => none
def eqInts : List AV → List AV → Option Bool
  | [],[] => some true
  | .int k a :: r,.int k' b :: s => cond (k == k') (match eqInts r s with | some q => some (a == b && q) | none => none) none
  | _,_ => none
def nat? : AV → Option Nat
  | .int _ n => cond (decide (0 ≤ n)) (some n.toNat) none
  | _ => none
def optNat? (d : Nat) : Option AV → Option Nat
  | none => some d
  | some v => nat? v
def sliceOf (size : Nat) (x : AV) (lo hi mx : Option AV) : Option AV :=
  match x with
  | .slice i o len cap g =>
    match optNat? cap mx with
    | none => none
    | some m => match optNat? len hi with
      | none => none
      | some h => match optNat? 0 lo with
        | none => none
        | some l => cond (Nat.ble m cap && (Nat.ble h m && Nat.ble l h) && (mx.isSome || (Nat.beq g 0 || Nat.beq g size))) (some (.slice i (o + l * size) (h - l) (m - l) (cond mx.isSome 0 g))) none
  | .nilslice => match optNat? 0 mx,optNat? 0 hi,optNat? 0 lo with
    | some 0,some 0,some 0 => some .nilslice
    | _,_,_ => none
  | _ => none
def sliceCells (m : Mem) (size : Nat) : AV → Option (List AV)
  | .nilslice => some []
  | .slice i o len _ _ => match m.look i with
    | some b => cond (Nat.ble (o + len * size) b.cells.length) (some ((b.cells.drop o).take (len * size))) none
    | none => none
  | _ => none
def sliceLen : AV → Option Nat
  | .nilslice => some 0
  | .slice _ _ len _ _ => some len
  | _ => none
def roomMost : Nat := 140737488355328
def appendAt (m : Mem) (size bytes : Nat) (s x : AV) : Option (AV × Mem) :=
  match sliceCells m size s,sliceCells m size x,sliceLen s,sliceLen x with
  | some olds,some news,some n,some k =>
    cond (Nat.beq k 0) (cond (match s with | .slice _ _ n cap _ => Nat.ble n cap | _ => true) (some (s,m)) none) <|
    cond (Nat.ble ((n + k) * bytes) roomMost && Nat.ble (n + k) roomMost && news.all AV.scalar) (
      match s with
      | .nilslice => some (.slice m.next 0 (n + k) (n + k) size,m.alloc ⟨olds ++ news,true⟩)
      | .slice i o _ cap g =>
        match m.look i with
        | none => none
        | some b =>
          cond (Nat.ble (n + k) cap)
            (cond (b.own && Nat.ble (o + (n + k) * size) b.cells.length) (some (.slice i o (n + k) cap g,m.put i ⟨splice b.cells (o + n * size) news,true⟩)) none)
            (cond (Nat.beq g 0) (some (.slice m.next 0 (n + k) (n + k) size,m.alloc ⟨olds ++ news,true⟩))
              (cond (b.own && Nat.beq g size) (some (.slice m.next 0 (n + k) (n + k) size,(m.put i ⟨[],false⟩).alloc ⟨olds ++ news,true⟩)) none))
      | _ => none) none
  | _,_,_,_ => none
def awayOk (m : Mem) (s x : AV) : Bool :=
  match sliceLen x with
  | some k => !(Nat.beq k 0) && (match s with
    | .nilslice => true
    | .slice i o n cap g => Nat.blt 0 n && Nat.blt cap (n + k) && (Nat.beq g 0 || (match m.look i with | some b => Nat.beq o 0 && Nat.beq (n * g) b.cells.length | none => false))
    | _ => false)
  | none => false
def copyAt (m : Mem) (size : Nat) (d s : AV) : Option (AV × Mem) :=
  match sliceCells m size s,sliceLen s,sliceLen d with
  | some news,some k,some n =>
    match d with
    | .nilslice => some (.int .i64 0,m)
    | .slice i o _ _ _ =>
      match m.look i with
      | none => none
      | some b =>
        cond (b.own && (Nat.ble (o + n * size) b.cells.length && news.all AV.scalar))
          (some (.int .i64 (Nat.min k n),m.put i ⟨splice b.cells o (news.take (Nat.min k n * size)),true⟩)) none
    | _ => none
  | _,_,_ => none
def clrAt (m : Mem) (z s : AV) : Option Mem :=
  match s with
  | .nilslice => some m
  | .slice i o n _ _ => match m.look i with
    | none => none
    | some b => cond (b.own && (Nat.ble (o + n) b.cells.length && z.scalar)) (some (m.put i ⟨splice b.cells o (List.replicate n z),true⟩)) none
  | _ => none
def clrsAt (m : Mem) (z : List AV) (s : AV) : Option Mem :=
  match s with
  | .nilslice => some m
  | .slice i o n _ _ => match m.look i with
    | none => none
    | some b => cond (b.own && (Nat.ble (o + n * z.length) b.cells.length && z.all AV.scalar)) (some (m.put i ⟨splice b.cells o (zeros z (n * z.length)),true⟩)) none
  | _ => none
def sliceArr (n size : Nat) (x : AV) (lo hi : Option AV) : Option AV :=
  match x with
  | .ptr i o => match optNat? n hi,optNat? 0 lo with
    | some h,some l => cond (Nat.ble h n && Nat.ble l h) (some (.slice i (o + l * size) (h - l) (n - l) 0)) none
    | _,_ => none
  | _ => none
def foldInt (f : Int → Int → Int) : AV → List AV → Option AV
  | v,[] => some v
  | .int k a,.int k' b :: r => cond (k == k') (foldInt f (.int k (f a b)) r) none
  | _,_ => none
def keyEq : AV → AV → Option Bool
  | .int k a,.int k' b => cond (k == k') (some (a == b)) none
  | _,_ => none
def findM (k : AV) : List AV → Nat → Option (Option (Nat × AV))
  | [],_ => some none
  | [_],_ => none
  | k' :: v :: r,i => match keyEq k k' with
    | some true => some (some (i,v))
    | some false => findM k r (i + 2)
    | none => none
def entsOf (m : Mem) : AV → Option (List AV)
  | .nilmap => some []
  | .map i => match m.look i with
    | some b => match b.cells with
      | [.ents es] => some es
      | _ => none
    | none => none
  | _ => none
def AV.isInt : AV → Bool
  | .int _ _ => true
  | _ => false
def lookAt (m : Mem) (ck : Bool) (zero : AV) (x k : AV) : Option AV :=
  cond k.isInt (match entsOf m x with
  | some es => match findM k es 0 with
    | some (some (_,v)) => some (cond ck (.tup [v,.bool true]) v)
    | some none => some (cond ck (.tup [zero,.bool false]) zero)
    | none => none
  | none => none) none
def putAt (m : Mem) (x k v : AV) : Option Mem :=
  match x with
  | .map i => cond k.isInt (match entsOf m x with
    | some es => match findM k es 0 with
      | some (some (j,_)) => some (m.put i ⟨[.ents (es.set (j + 1) v)],true⟩)
      | some none => some (m.put i ⟨[.ents (es ++ [k,v])],true⟩)
      | none => none
    | none => none) none
  | _ => none
def allocIn (m : Mem) (slot : Option Nat) (b : Blk) : Nat × Mem :=
  match slot with
  | none => (m.next,m.alloc b)
  | some r => (r,m.put r b)
def loadBack (agg : Bool) (n : Nat) (a : AV) : Nat → List Mem → Option AV → Option AV
  | 0,_,v => v
  | _ + 1,[],_ => none
  | k + 1,m :: h,none => match loadAt m agg n a with
    | some v => loadBack agg n a k h (some v)
    | none => none
  | k + 1,m :: h,some v => match loadAt m agg n a with
    | some v' => cond (AV.beq v' v) (loadBack agg n a k h (some v)) none
    | none => none
def stepOp (e : Env) (m : Mem) (h : List Mem) (back : Nat) (slot : Option Nat) : AOp → Option (AV × Mem)
  | .mov x => some (x.ev e,m)
  | .pick c a b => match c.ev e with
    | .bool t => some (cond t (a.ev e) (b.ev e),m)
    | _ => none
  | .box x => match allocIn m slot ⟨(x.ev e).cells,true⟩ with
    | (i,m') => some (.ptr i 0,m')
  | .zero z => match allocIn m slot ⟨z,true⟩ with
    | (i,m') => some (.ptr i 0,m')
  | .build z ps => match fill z (ps.map fun p => (p.1,p.2.1,p.2.2.ev e)) with
    | some cs => some (.agg cs,m)
    | none => none
  | .buildS z len ps => match fill z (ps.map fun p => (p.1,p.2.1,p.2.2.ev e)) with
    | some cs => match allocIn m slot ⟨cs,true⟩ with
      | (i,m') => some (.slice i 0 len len 0,m')
    | none => none
  | .load agg n a => match back with
    | 0 => match loadAt m agg n (a.ev e) with
      | some v => some (v,m)
      | none => none
    | b + 1 => match loadBack agg n (a.ev e) (b + 1) h none with
      | some v => some (v,m)
      | none => none
  | .store n a x => match storeAt m n (a.ev e) (x.ev e) with
    | some m' => some (.undef,m')
    | none => none
  | .nilCheck x => match x.ev e with
    | .nilptr | .nilIface | .nilFunc => none
    | v => some (v,m)
  | .bin op x y => match aBin op (x.ev e) (y.ev e) with
    | some v => some (v,m)
    | none => none
  | .eqa neg n x y => match x.ev e,y.ev e with
    | .agg xs,.agg ys => cond (xs.length == n && ys.length == n) (match eqInts xs ys with | some q => some (.bool (Bool.xor neg q),m) | none => none) none
    | _,_ => none
  | .eqs neg x y => match aEqs (x.ev e) (y.ev e) with
    | some q => some (.bool (Bool.xor neg q),m)
    | none => none
  | .eqb neg x y => match x.ev e,y.ev e with
    | .bool a,.bool b => some (.bool (Bool.xor neg (a == b)),m)
    | _,_ => none
  | .un op x => match aUn op (x.ev e) with
    | some v => some (v,m)
    | none => none
  | .conv k x => match x.ev e with
    | .int _ n => some (.int k (k.wrap n),m)
    | _ => none
  | .fieldA off x => match x.ev e with
    | .ptr i o => some (.ptr i (o + off),m)
    | _ => none
  | .field off n agg x => match x.ev e with
    | .agg cs => cond agg (some (.agg ((cs.drop off).take n),m)) (match cs[off]? with | some v => some (v,m) | none => none)
    | _ => none
  | .idxA arr size x i => match nat? (i.ev e) with
    | none => none
    | some j => match arr,x.ev e with
      | some len,.ptr b o => cond (Nat.blt j len) (some (.ptr b (o + j * size),m)) none
      | none,.slice b o len _ _ => cond (Nat.blt j len) (some (.ptr b (o + j * size),m)) none
      | _,_ => none
  | .idx len size agg x i => match nat? (i.ev e),x.ev e with
    | some j,.agg cs => cond (Nat.blt j len) (cond agg (some (.agg ((cs.drop (j * size)).take size),m)) (match cs[j * size]? with | some v => some (v,m) | none => none)) none
    | _,_ => none
  | .mkS z bytes size l c => match nat? (l.ev e),nat? (c.ev e) with
    | some n,some k => cond (Nat.ble n k && Nat.ble (k * bytes) roomMost && Nat.ble k roomMost) (match allocIn m slot ⟨zeros z (k * size),true⟩ with
      | (i,m') => some (.slice i 0 n k 0,m')) none
    | _,_ => none
  | .slc size x lo hi mx => match sliceOf size (x.ev e) (lo.map (·.ev e)) (hi.map (·.ev e)) (mx.map (·.ev e)) with
    | some v => some (v,m)
    | none => none
  | .slcA n size x lo hi => match sliceArr n size (x.ev e) (lo.map (·.ev e)) (hi.map (·.ev e)) with
    | some v => some (v,m)
    | none => none
  | .mkF f xs ys => some (.func f (xs.map (·.ev e)) (ys.map (·.ev e)),m)
  | .ext x i => match x.ev e with
    | .tup vs => match vs[i]? with
      | some v => some (v,m)
      | none => none
    | _ => none
  | .len x => match sliceLen (x.ev e) with
    | some n => some (.int .i64 n,m)
    | none => none
  | .append size bytes s x => appendAt m size bytes (s.ev e) (x.ev e)
  | .copy size d s => copyAt m size (d.ev e) (s.ev e)
  | .clr z s => match clrAt m z (s.ev e) with
    | some m' => some (.undef,m')
    | none => none
  | .clrs z s => match clrsAt m z (s.ev e) with
    | some m' => some (.undef,m')
    | none => none
  | .max xs => match (xs.map (Opd.ev e) : List AV) with
    | .int k a :: r => match foldInt (fun x y => if y > x then y else x) (.int k a) r with
      | some v => some (v,m)
      | none => none
    | _ => none
  | .min xs => match (xs.map (Opd.ev e) : List AV) with
    | .int k a :: r => match foldInt (fun x y => if y < x then y else x) (.int k a) r with
      | some v => some (v,m)
      | none => none
    | _ => none
  | .mkM => some (.map m.next,m.alloc ⟨[.ents []],true⟩)
  | .lookM ck z x k => match lookAt m ck z (x.ev e) (k.ev e) with
    | some v => some (v,m)
    | none => none
  | .putM x k v => match putAt m (x.ev e) (k.ev e) (v.ev e) with
    | some m' => some (.undef,m')
    | none => none
  | .appZ size bytes s x => cond (awayOk m (s.ev e) (x.ev e)) (match appendAt m size bytes (s.ev e) (x.ev e) with
    | some (.slice ..,_) => some (.away size bytes (s.ev e) (x.ev e),m)
    | _ => none) none
  | .call _ _ | .callZ _ _ | .fail => none
def putD (e : Env) (d : Option Nat) (v : AV) : Env :=
  match d with
  | some t => e.set t v
  | none => e
def wanted (e : Env) : Option (Nat × Bool) → Bool
  | none => true
  | some (t,want) => match e.at t with
    | .bool b => b == want
    | _ => false
abbrev CallF := Nat → List AV → Mem → Option (AV × Mem)
def giveBack (m m1 m2 : Mem) (s v : AV) : Option Mem :=
  match s with
  | .slice i o n _ g => match m1.look i with
    | some ⟨[],false⟩ => match v with
      | .slice b _ _ _ _ => match m.look i,m1.look b,m2.look i,m2.look b with
        | some bi,some c1,some ⟨[],false⟩,some c2 => cond (c2.own && (AV.beqs c2.cells c1.cells && (Nat.beq o 0 && Nat.beq (n * g) bi.cells.length))) (some ((m2.put b ⟨[],false⟩).put i bi)) none
        | _,_,_,_ => none
      | _ => none
    | _ => some m2
  | _ => some m2
def branchA (cf : CallF) (g : Nat) (first cap : List AV) (args : List AV) (m : Mem) : Option (AV × Mem) :=
  cond (Nat.blt g 100000) (match args with
  | .away n b s x :: r => match appendAt m n b s x with
    | some (v,m1) => match cf g (first ++ ((v :: r) ++ cap)) m1 with
      | some (q,m2) => match giveBack m m1 m2 s v with
        | some m3 => some (q,m3)
        | none => none
      | none => none
    | none => none
  | _ => none) none
def runOps (cf : CallF) (base : Nat) : List AOper → Env → Mem → List Mem → Option (Env × Mem)
  | [],e,m,_ => some (e,m)
  | o :: rest,e,m,h =>
    cond (wanted e o.guard)
      (match o.op with
        | .call f args => match f.ev e with
          | .func g first cap => match cf g (first ++ (args.map (·.ev e) ++ cap)) m with
            | some (v,m') => runOps cf base rest (putD e o.dst v) m' (m' :: h)
            | none => none
          | _ => none
        | .callZ f args => match f.ev e with
          | .func g first cap => match branchA cf g first cap (args.map (Opd.ev e)) m with
            | some (v,m') => runOps cf base rest (putD e o.dst v) m' (m' :: h)
            | none => none
          | _ => none
        | op => match stepOp e m h o.back (o.slot.map (base + ·)) op with
          | some (v,m') => runOps cf base rest (putD e o.dst v) m' (cond o.eff (m' :: h) h)
          | none => none)
      (runOps cf base rest (putD e o.dst .undef) m (cond o.eff (m :: h) h))
inductive AExit where
  | normal
  | exit (id : Nat)
  | ret
def resOf (e : Env) (m : Mem) : ARes → Option AV
  | .tmp t => some (e.at t)
  | .cell t n agg => loadAt m agg n (e.at t)
def resAll (e : Env) (m : Mem) : List ARes → Option (List AV)
  | [] => some []
  | r :: rest => match resOf e m r with
    | some v => match resAll e m rest with
      | some vs => some (v :: vs)
      | none => none
    | none => none
def results (f : AFunc) (e : Env) (m : Mem) : Option AV :=
  match resAll e m f.results with
  | some [v] => some v
  | some vs => some (.tup vs)
  | none => none
abbrev Prog := Nat → Option AFunc
def exec (C : Prog) : Nat → ACode → Env → Mem → Option (AExit × Env × Mem)
  | 0,_,_,_ => none
  | n + 1,c,e,m =>
    match c with
    | .skip => some (.normal,e,m)
    | .region r ops =>
      match runOps (fun f args m => match C f with
        | some af => match exec C n af.body (Env.of args) m with
          | some (.normal,e',m') => match results af e' m' with | some v => some (v,m') | none => none
          | some (.ret,e',m') => match results af e' m' with | some v => some (v,m') | none => none
          | _ => none
        | none => none) m.next ops e (m.reserve r) [m.reserve r] with
      | some (e',m') => some (.normal,e',m')
      | none => none
    | .seq a b => match exec C n a e m with
      | some (.normal,e',m') => exec C n b e' m'
      | r => r
    | .cond c a b => match c.ev e with
      | .bool true => exec C n a e m
      | .bool false => exec C n b e m
      | _ => none
    | .block id b => match exec C n b e m with
      | some (.exit id',e',m') => cond (Nat.beq id' id) (some (.normal,e',m')) (some (.exit id',e',m'))
      | r => r
    | .loop b => match exec C n b e m with
      | some (.normal,e',m') => exec C n (.loop b) e' m'
      | r => r
    | .exit id => some (.exit id,e,m)
    | .ret => some (.ret,e,m)
    | .fail => none
def callA (C : Prog) (n : Nat) (f : Nat) (args : List AV) (m : Mem) : Option (AV × Mem) :=
  match C f with
  | some af => match exec C n af.body (Env.of args) m with
    | some (.normal,e',m') => match results af e' m' with | some v => some (v,m') | none => none
    | some (.ret,e',m') => match results af e' m' with | some v => some (v,m') | none => none
    | _ => none
  | none => none
end Go.Am
