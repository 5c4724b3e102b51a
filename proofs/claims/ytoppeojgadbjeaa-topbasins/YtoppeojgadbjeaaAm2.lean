/-
  THE ABSTRACT MACHINE, 2: from the model's code to the abstract machine's code. What it does not take becomes an operation that fails.
-/
import Derived.Test.YtoppeojgadbjeaaAm1
namespace Go.Am
def cvS : Value → Option AV
  | .bool b => some (.bool b)
  | .int k n => some (.int k n)
  | .pointer none => some .nilptr
  | .slice none 0 0 => some .nilslice
  | .nilFunc => some .nilFunc
  | .nilIface => some .nilIface
  | .map none => some .nilmap
  | _ => none
def cvL : List Value → Option (List AV)
  | [] => some []
  | v :: r => match cvS v with
    | some a => match cvL r with
      | some s => some (a :: s)
      | none => none
    | none => none
def cv : Value → Option AV
  | .agg cs => (cvL cs.toList).map .agg
  | .tuple vs => (cvL vs.toList).map .tup
  | v => cvS v
section
variable (P : Program)
def cOpd : Operand → Option Opd
  | .tmp t => some (.t t)
  | .const v => (cv v).map .c
  | .func f => cond (Nat.blt f 100000) (some (.c (.func f [] []))) none
  | .global g => cond (Nat.blt g P.globals.size) (some (.c (.ptr g 0))) none
def cOpds : List Operand → Option (List Opd)
  | [] => some []
  | x :: r => match cOpd P x with
    | some a => match cOpds r with
      | some s => some (a :: s)
      | none => none
    | none => none
def cOptOpd : Option Operand → Option (Option Opd)
  | none => some none
  | some x => (cOpd P x).map some
def sizeT (t : TypeId) : Option Nat := (P.info? t).map (·.size)
def bytesT (t : TypeId) : Option Nat := (P.info? t).map (·.bytes)
def aggT (t : TypeId) : Option Bool :=
  match P.underlying t with
  | some (.struct _) | some (.array _ _) => some true
  | some _ => some false
  | none => none
def zeroT (t : TypeId) : Option (List AV) :=
  match P.info? t with
  | some i => match i.zero with
    | some z => match cvL z.cells.toList with
      | some l => cond (Nat.beq l.length i.size) (some l) none
      | none => none
    | none => none
  | none => none
def zeroVT (t : TypeId) : Option AV :=
  match P.info? t with
  | some i => match i.zero with
    | some z => cv z
    | none => none
  | none => none
def mapT (t : TypeId) : Option TypeId :=
  match P.underlying t with
  | some (.map k e) => match P.underlying k with
    | some (.int _) => some e
    | _ => none
  | _ => none
def placeOf (d : TypeDesc) (i : Nat) : Option (Nat × Nat) :=
  match d with
  | .struct fs => match fs[i]? with
    | some f => match sizeT P f.type with
      | some n => some (f.offset,n)
      | none => none
    | none => none
  | .array _ e => match sizeT P e with
    | some n => some (i * n,n)
    | none => none
  | .slice e => match sizeT P e with
    | some n => some (i * n,n)
    | none => none
  | _ => none
def cParts (d : TypeDesc) : List (Nat × Operand) → Option (List (Nat × Nat × Opd))
  | [] => some []
  | (i,x) :: r => match placeOf P d i,cOpd P x,cParts d r with
    | some (o,n),some a,some s => some ((o,n,a) :: s)
    | _,_,_ => none
def isInts (t : TypeId) : Option Nat :=
  match P.underlying t with
  | some (.array n e) => match P.underlying e,sizeT P e with
    | some (.int _),some 1 => some n
    | _,_ => none
  | _ => none
def cBuiltin (b : Builtin) (ts : List TypeId) (xs : List Opd) : Option AOp :=
  match b,ts,xs with
  | .len,[t],[x] => match P.underlying t with
    | some (.slice _) => some (.len x)
    | _ => none
  | .append,[t,u],[s,x] => cond (Nat.beq t u) (match P.underlying t with
    | some (.slice e) => match sizeT P e,bytesT P e,zeroT P e with
      | some n,some b,some _ => cond (Nat.beq n 0) none (some (.append n b s x))
      | _,_,_ => none
    | _ => none) none
  | .copy,[t,u],[d,s] => cond (Nat.beq t u) (match P.underlying t with
    | some (.slice e) => match sizeT P e with
      | some n => some (.copy n d s)
      | none => none
    | _ => none) none
  | .clear,[t],[x] => match P.underlying t with
    | some (.slice e) => match sizeT P e,zeroT P e with
      | some n,some [z] => cond (Nat.beq n 1) (some (.clr z x)) none
      | some n,some (z :: y :: r) => cond (Nat.beq n 0) none (some (.clrs (z :: y :: r) x))
      | _,_ => none
    | _ => none
  | .max,_,xs => some (.max xs)
  | .min,_,xs => some (.min xs)
  | _,_,_ => none
def bytesOf (s : ByteArray) : List AV := s.data.toList.map fun b => .int .u8 (Int.ofNat b.toNat)
def cOp (o : Op) : Option AOp :=
  match o with
  | .move x | .assign x => (cOpd P x).map .mov
  | .pick c a b => match cOpd P c,cOpd P a,cOpd P b with
    | some c,some a,some b => some (.pick c a b)
    | _,_,_ => none
  | .alloc t => (zeroT P t).map .zero
  | .box _ x => (cOpd P x).map .box
  | .build t ps => match P.underlying t with
    | some (.struct fs) => match zeroT P t,cParts P (.struct fs) ps.toList with
      | some z,some l => cond (fs.toList.all fun f => (sizeT P f.type).isSome) (some (.build z l)) none
      | _,_ => none
    | some (.array n e) => match zeroT P t,cParts P (.array n e) ps.toList with
      | some z,some l => cond (sizeT P e).isSome (some (.build z l)) none
      | _,_ => none
    | _ => none
  | .buildSlice t len ps => match P.underlying t with
    | some (.slice e) => match sizeT P e,zeroT P e,cParts P (.slice e) ps.toList with
      | some n,some z,some l => cond (Nat.ble (len * n) 16777216 && !Nat.beq n 0) (some (.buildS (zeros z (len * n)) len l)) none
      | _,_,_ => none
    | _ => none
  | .load t a => match aggT P t,sizeT P t,cOpd P a with
    | some g,some n,some a => some (.load g n a)
    | _,_,_ => none
  | .store t a x => match sizeT P t,cOpd P a,cOpd P x with
    | some n,some a,some x => some (.store n a x)
    | _,_,_ => none
  | .nilCheck x => (cOpd P x).map .nilCheck
  | .binOp op t x y _ => match cOpd P x,cOpd P y with
    | some x,some y => match op,isInts P t with
      | .eql,some n => some (.eqa false n x y)
      | .neq,some n => some (.eqa true n x y)
      | _,_ => match op,P.underlying t with
        | .eql,some (.slice _) => some (.eqs false x y)
        | .neq,some (.slice _) => some (.eqs true x y)
        | .eql,some .bool => some (.eqb false x y)
        | .neq,some .bool => some (.eqb true x y)
        | _,some (.int _) => some (.bin op x y)
        | _,_ => none
    | _,_ => none
  | .unOp op _ x => (cOpd P x).map (.un op)
  | .convert s d x => match P.underlying s,P.underlying d with
    | some _,some (.int k) => (cOpd P x).map (.conv k)
    | _,_ => none
  | .makeFunc (.func f) xs ys => match cOpds P xs.toList,cOpds P ys.toList with
    | some xs,some ys => cond (Nat.blt f 100000) (some (.mkF f xs ys)) none
    | _,_ => none
  | .makeSlice t l c => match P.underlying t with
    | some (.slice e) => match sizeT P e,bytesT P e,zeroT P e,cOpd P l,cOpd P c with
      | some n,some b,some z,some l,some c => cond (Nat.beq n 0) none (some (.mkS z b n l c))
      | _,_,_,_,_ => none
    | _ => none
  | .slice t x lo hi mx => match P.underlying t with
    | some (.slice e) => match sizeT P e,cOpd P x,cOptOpd P lo,cOptOpd P hi,cOptOpd P mx with
      | some n,some x,some lo,some hi,some mx => cond (mx.isSome && hi.isNone) none (some (.slc n x lo hi mx))
      | _,_,_,_,_ => none
    | some (.array len e) => match sizeT P e,cOpd P x,cOptOpd P lo,cOptOpd P hi with
      | some n,some x,some lo,some hi => cond mx.isSome none (some (.slcA len n x lo hi))
      | _,_,_,_ => none
    | _ => none
  | .fieldAddr t x f => match P.underlying t with
    | some (.struct fs) => match fs[f]? with
      | some fl => match sizeT P fl.type,cOpd P x with
        | some n,some x => cond (Nat.beq n 0) none (some (.fieldA fl.offset x))
        | _,_ => none
      | none => none
    | _ => none
  | .field t x f => match P.underlying t with
    | some (.struct fs) => match fs[f]? with
      | some fl => match sizeT P fl.type,aggT P fl.type,cOpd P x with
        | some n,some g,some x => some (.field fl.offset n g x)
        | _,_,_ => none
      | none => none
    | _ => none
  | .indexAddr t x i => match cOpd P x,cOpd P i with
    | some x,some i => match P.underlying t with
      | some (.array len e) => (sizeT P e).map fun n => .idxA (some len) n x i
      | some (.slice e) => (sizeT P e).map fun n => .idxA none n x i
      | _ => none
    | _,_ => none
  | .index t x i => match cOpd P i with
    | some i => match P.underlying t with
      | some (.array len e) => match sizeT P e,aggT P e,cOpd P x with
        | some n,some g,some x => some (.idx len n g x i)
        | _,_,_ => none
      | some .string => match x with
        | .const (.string s) => some (.idx s.size 1 false (.c (.agg (bytesOf s))) i)
        | _ => none
      | _ => none
    | none => none
  | .extract x i => (cOpd P x).map (.ext · i)
  | .call c => match cOpds P c.args.toList with
    | some xs => match c.callee with
      | .value f => (cOpd P f).map (.call · xs)
      | .builtin b => cBuiltin P b c.argTypes.toList xs
      | .invoke _ _ => none
    | none => none
  | .makeMap _ none => some .mkM
  | .lookup t x i ck => match mapT P t,cOpd P x,cOpd P i with
    | some e,some x,some i => match zeroVT P e with
      | some z => some (.lookM ck z x i)
      | none => none
    | _,_,_ => none
  | .mapUpdate t m k v => match mapT P t,cOpd P m,cOpd P k,cOpd P v with
    | some _,some m,some k,some v => some (.putM m k v)
    | _,_,_,_ => none
  | _ => none
def opOf (o : Op) : AOp := (cOp P o).getD .fail
def Opd.slots : Opd → List Nat
  | .t n => [n]
  | .c _ => []
def AOp.slots : AOp → List Nat
  | .mov x | .box x | .load _ _ x | .nilCheck x | .un _ x | .conv _ x | .fieldA _ x | .field _ _ _ x | .ext x _ | .len x | .clr _ x | .clrs _ x => x.slots
  | .pick c a b => c.slots ++ (a.slots ++ b.slots)
  | .zero _ | .fail | .mkM => []
  | .lookM _ _ x k => x.slots ++ k.slots
  | .putM x k v => x.slots ++ (k.slots ++ v.slots)
  | .build _ ps | .buildS _ _ ps => ps.flatMap fun p => p.2.2.slots
  | .store _ a x | .bin _ a x | .eqa _ _ a x | .eqs _ a x | .eqb _ a x | .idxA _ _ a x | .idx _ _ _ a x | .mkS _ _ _ a x | .append _ _ a x | .appZ _ _ a x | .copy _ a x => a.slots ++ x.slots
  | .slc _ x lo hi mx => x.slots ++ ((lo.map Opd.slots).getD [] ++ ((hi.map Opd.slots).getD [] ++ (mx.map Opd.slots).getD []))
  | .slcA _ _ x lo hi => x.slots ++ ((lo.map Opd.slots).getD [] ++ (hi.map Opd.slots).getD [])
  | .mkF _ xs ys => xs.flatMap Opd.slots ++ ys.flatMap Opd.slots
  | .max xs | .min xs => xs.flatMap Opd.slots
  | .call f xs | .callZ f xs => f.slots ++ xs.flatMap Opd.slots
def AOp.sort : AOp → Nat
  | .load .. => 1
  | .box _ | .zero _ | .buildS .. | .mkS .. => 2
  | .store .. | .append .. | .copy .. | .clr .. | .clrs .. | .mkM | .lookM .. | .putM .. | .appZ .. | .call .. | .callZ .. => 3
  | _ => 0
def guardOf (ops : Array Oper) (g : Option (Nat × Bool)) : Option (Option (Nat × Bool)) :=
  match g with
  | none => some none
  | some (j,b) => match (ops[j]?).bind (·.dst) with
    | some t => some (some (t,b))
    | none => none
def cPlain (ops : Array Oper) : List Oper → Option (List AOper)
  | [] => some []
  | o :: r => match guardOf ops o.guard,cPlain ops r with
    | some g,some s => some (⟨o.dst,opOf P o.op,g,0,none,false⟩ :: s)
    | _,_ => none
def befores : List Oper → List Nat → List Nat
  | [],acc => acc
  | o :: r,acc => befores r (acc ++ [o.after.toList.foldl (fun s e => cond (Region.binds .any e) (s ||| 2 ^ e.on ||| acc.getD e.on 0) s) 0])
def canonFrom (sorts bs : List Nat) (n : Nat) : List Nat → List Nat → List Nat
  | [],done => done ++ (List.range n).filter fun i => !done.contains i
  | e :: es,done =>
    canonFrom sorts bs n es ((done ++ (List.range n).filter fun i => !done.contains i && (sorts.getD i 0 != 3 && (bs.getD e 0).testBit i)) ++ [e])
def canon (sorts bs : List Nat) (n : Nat) : List Nat :=
  canonFrom sorts bs n ((List.range n).filter fun i => sorts.getD i 0 == 3) []
def effs (sorts : List Nat) (l : List Nat) : Nat := (l.filter fun i => Nat.beq (sorts.getD i 0) 3).length
def backOf (sorts bs cn : List Nat) (n p i : Nat) : Nat :=
  effs sorts (cn.take p) + 1 - effs sorts ((List.range n).filter fun j => (bs.getD i 0).testBit j)
def madeFor (ops : Array Oper) (i j : Nat) : Bool :=
  match ops[i]?,ops[j]? with
  | some a,some b => match opOf P a.op,a.dst,opOf P b.op with
    | .append _ _ _ _,some t,.call _ (.t t' :: _) => Nat.beq t t' && (a.guard == b.guard)
    | _,_,_ => false
  | _,_ => false
def flagA (br : Bool) (ops : Array Oper) (sorts pos : List Nat) (n i : Nat) : Bool :=
  br && ((List.range n).any (fun j => madeFor P ops i j && Nat.blt (pos.getD i n) (pos.getD j n) && (List.range n).all fun k => Nat.ble (sorts.getD k 0) 1 || Nat.ble (pos.getD k n) (pos.getD i n) || (Nat.ble (pos.getD j n) (pos.getD k n) && Nat.beq (sorts.getD k 0) 3)))
def flagC (br : Bool) (ops : Array Oper) (sorts pos : List Nat) (n j : Nat) : Bool :=
  br && ((List.range n).any (fun i => madeFor P ops i j && Nat.blt (pos.getD i n) (pos.getD j n) && (List.range n).all fun k => Nat.ble (sorts.getD k 0) 1 || Nat.ble (pos.getD k n) (pos.getD i n) || (Nat.ble (pos.getD j n) (pos.getD k n) && Nat.beq (sorts.getD k 0) 3)))
def awayOf (a c : Bool) (op : AOp) : AOp :=
  match op with
  | .append n b s x => cond a (.appZ n b s x) (.append n b s x)
  | .call f l => cond c (.callZ f l) (.call f l)
  | op => op
def cDrawn (br : Bool) (ops : Array Oper) (sorts bs cn pos : List Nat) : Nat → List Nat → Option (List AOper)
  | _,[] => some []
  | p,i :: r => match ops[i]? with
    | none => none
    | some o => match guardOf ops o.guard,cDrawn br ops sorts bs cn pos (p + 1) r with
      | some g,some s =>
        some (⟨o.dst,awayOf (flagA P br ops sorts pos ops.size i) (flagC P br ops sorts pos ops.size i) (opOf P o.op),g,
          cond (Nat.beq (sorts.getD i 0) 1) (backOf sorts bs cn ops.size p i) 0,
          cond (Nat.beq (sorts.getD i 0) 2) (some ((List.range i).filter fun j => Nat.beq (sorts.getD j 0) 2).length) none,
          Nat.beq (sorts.getD i 0) 3⟩ :: s)
      | _,_ => none
def namesOf (ops : Array Oper) (o : Oper) : List Nat :=
  o.dst.toList ++ ((opOf P o.op).slots ++ (match o.guard with | some (j,_) => ((ops[j]?).bind (·.dst)).toList | none => []))
def drawOk (sorts bs cn pos : List Nat) (ns : List (List Nat)) (ds : List (Option Nat)) (n : Nat) : Bool :=
  (Nat.beq cn.length n && ((List.range n).all fun i => Nat.blt (pos.getD i n) n && Nat.beq (cn.getD (pos.getD i n) n) i) && (List.range n).all fun p => Nat.blt (cn.getD p n) n && Nat.beq (pos.getD (cn.getD p n) n) p) &&
  ((List.range n).all fun j => Nat.blt (bs.getD j 0) (2 ^ j)) &&
  ((List.range n).all fun j => (List.range n).all fun i => !(bs.getD j 0).testBit i || Nat.blt i j && Nat.blt (pos.getD i n) (pos.getD j n)) &&
  ((List.range n).all fun j => (List.range j).all fun i =>
    (match ds.getD i none with | some t => !(ds.getD j none == some t) | none => true) &&
    ((bs.getD j 0).testBit i ||
      !(Nat.beq (sorts.getD i 0) 3 && Nat.beq (sorts.getD j 0) 3) &&
      (match ds.getD i none with | some t => !(ns.getD j []).contains t | none => true) &&
      (match ds.getD j none with | some t => !(ns.getD i []).contains t | none => true))) &&
  (let es := (List.range n).filter fun i => Nat.beq (sorts.getD i 0) 3
   ((List.range n).all fun i => Nat.beq (sorts.getD i 0) 3 || es.all fun e => !Nat.blt (pos.getD i n) (pos.getD e n) ||
     es.any fun e' => Nat.blt (pos.getD i n) (pos.getD e' n) && Nat.ble (pos.getD e' n) (pos.getD e n) && (bs.getD e' 0).testBit i) &&
   ((List.range n).all fun i => !Nat.beq (sorts.getD i 0) 1 || (Nat.blt 0 (backOf sorts bs cn n (pos.getD i n) i) &&
     es.all fun e => !Nat.blt (pos.getD e n) (pos.getD i n) || !Nat.ble (backOf sorts bs cn n (pos.getD i n) i) (effs sorts (cn.take (pos.getD i n)) - effs sorts (cn.take (pos.getD e n))) || (bs.getD i 0).testBit e)))
def dstOk (k : Nat) (ops : List Oper) : Bool := ops.all fun o => match o.dst with | some d => Nat.blt d k | none => true
def AOper.names (o : AOper) : List Nat := o.dst.toList ++ (o.op.slots ++ (match o.guard with | some (t,_) => [t] | none => []))
def ACode.names : ACode → List Nat
  | .region _ ops => ops.flatMap AOper.names
  | .seq a b => a.names ++ b.names
  | .cond c a b => c.slots ++ (a.names ++ b.names)
  | .block _ b => b.names
  | .loop b => b.names
  | _ => []
def ACode.stays : ACode → Bool
  | .ret => false
  | .seq a b => a.stays && b.stays
  | .cond _ a b => a.stays && b.stays
  | .block _ b => b.stays
  | .loop b => b.stays
  | _ => true
def dedup : List Nat → List Nat → List Nat
  | [],_ => []
  | a :: r,seen => cond (seen.any (Nat.beq a)) (dedup r seen) (a :: dedup r (a :: seen))
def loopsN : Code → Nat
  | .rangeFunc _ _ _ _ => 1
  | .seq a b => loopsN a + loopsN b
  | .cond _ a b => loopsN a + loopsN b
  | .block _ b => loopsN b
  | .loop b => loopsN b
  | _ => 0
def loopsOf : Code → List (List Nat × Code × Code)
  | .rangeFunc _ ps a b => [(ps.toList,a,b)]
  | .seq a b => loopsOf a ++ loopsOf b
  | .cond _ a b => loopsOf a ++ loopsOf b
  | .block _ b => loopsOf b
  | .loop b => loopsOf b
  | _ => []
def stepO (d : Option Nat) (op : AOp) : AOper := ⟨d,op,none,0,none,false⟩
def rangeA (q : Nat) (us : List Nat) (f : Opd) : ACode := .region 0 [stepO none (.call (.c (.func (q + 1000000) [] [])) (f :: us.map .t))]
def helpA (q u : Nat) : AFunc :=
  ⟨[],.seq (.region 0 [stepO (some (1 + u)) (.box (.c (.bool true))),stepO (some (2 + u)) (.mkF q [.t (1 + u)] (((List.range u).map fun i => .t (1 + i)) ++ [.t (1 + u)])),stepO none (.call (.t 0) [.t (2 + u)]),
    stepO (some (3 + u)) (.load false 1 (.t (1 + u)))]) (.cond (.t (3 + u)) (.region 0 [stepO none (.store 1 (.t (1 + u)) (.c (.bool false)))]) .fail)⟩
def wrapA (j k : Nat) (ps us : List Nat) : AFunc :=
  ⟨[.tmp (2 + ps.length + us.length)],.region 0 [stepO (some (2 + ps.length + us.length)) (.conv .u8 (.t 1)),stepO (some (2 + ps.length + us.length)) (.load false 1 (.t 0)),stepO none (.call (.c (.func (j + 1) [] [])) (((List.range k).map fun t => cond (Nat.blt (ps.idxOf t) ps.length) (.t (1 + ps.idxOf t)) (cond (Nat.blt (us.idxOf t) us.length) (.t (1 + ps.length + us.idxOf t)) (.c .undef))) ++ [.t 0,.t (1 + ps.length + us.length)])),
    stepO (some (2 + ps.length + us.length)) (.mov (.c (.bool true)))]⟩
def roundA (k : Nat) (a b : ACode) : AFunc :=
  ⟨[],.seq a (.seq (.region 0 [stepO (some (k + 2)) (.load false 1 (.t (k + 1)))]) (.seq (.cond (.t (k + 2)) (.region 0 [stepO none (.store 1 (.t k) (.c (.bool false))),stepO (some (k + 2)) (.load false 1 (.t (k + 1)))]) .fail)
    (.seq (.cond (.t (k + 2)) .fail .skip) (.seq b (.region 0 [stepO none (.store 1 (.t k) (.c (.bool true)))])))))⟩
def usOf (ps : List Nat) (a b : ACode) : List Nat := dedup (a.names ++ b.names) ps
def cCode (br : Bool) (q k : Nat) : Code → Option ACode
  | .skip => some .skip
  | .region _ ops draw =>
    cond (dstOk k ops.toList)
      (cond draw
        (let sorts := ops.toList.map fun o => (opOf P o.op).sort
         let bs := befores ops.toList []
         let cn := canon sorts bs ops.size
         let pos := (List.range ops.size).map fun i => cn.idxOf i
         cond (drawOk sorts bs cn pos (ops.toList.map (namesOf P ops)) (ops.toList.map fun o => o.dst) ops.size) ((cDrawn P br ops sorts bs cn pos 0 cn).map (.region ((List.range ops.size).filter fun j => Nat.beq (sorts.getD j 0) 2).length)) none)
        ((cPlain P ops ops.toList).map (.region 0)))
      none
  | .seq a b => match cCode br q k a,cCode br (cond (Nat.beq q 0) 0 (q + 2 * loopsN a)) k b with
    | some a,some b => some (.seq a b)
    | _,_ => none
  | .cond c a b => match cOpd P c,cCode br q k a,cCode br (cond (Nat.beq q 0) 0 (q + 2 * loopsN a)) k b with
    | some c,some a,some b => some (.cond c a b)
    | _,_,_ => none
  | .block id b => (cCode br q k b).map (.block id)
  | .loop b => (cCode br q k b).map .loop
  | .exit id => some (.exit id)
  | .ret => some .ret
  | .rangeFunc f ps a b => cond (Nat.beq q 0) (some .fail) (match cOpd P f,cCode false 0 k a,cCode false 0 k b with
    | some f,some a,some b => some (rangeA q (usOf ps.toList a b) f)
    | _,_,_ => none)
  | _ => some .fail
def qBase (f : Nat) : Nat := 100000 + 100 * f
def rndOf (j : Nat) : Option Rnd :=
  cond (Nat.beq (j % 2) 0 && (Nat.ble 100000 j && Nat.blt j 200000)) (match P.funcs[j / 100 % 1000]? with
  | some fn => match fn.body with
    | some c => match (loopsOf c)[j % 100 / 2]? with
      | some (ps,a,b) => match cCode P false 0 fn.ntmps a,cCode P false 0 fn.ntmps b with
        | some ca,some cb => some ⟨fn.ntmps,ps,usOf ps ca cb,a,b⟩
        | _,_ => none
      | none => none
    | none => none
  | none => none) none
def cRound (j : Nat) : Option (AFunc × AFunc × AFunc) :=
  match rndOf P j with
  | some r => match cCode P false 0 r.k r.assign,cCode P false 0 r.k r.body with
    | some ca,some cb => cond (ca.stays && (cb.stays && (Nat.beq r.ps.length 1 && ((r.us.all fun t => Nat.blt t r.k) && (r.ps.all fun t => Nat.blt t r.k))))) (some (wrapA j r.k r.ps r.us,roundA r.k ca cb,helpA j r.us.length)) none
    | _,_ => none
  | none => none
def cRes : List ResultVar → Option (List ARes)
  | [] => some []
  | .tmp t :: r => (cRes r).map (.tmp t :: ·)
  | .cell t ty :: r => match sizeT P ty,aggT P ty,cRes r with
    | some n,some g,some s => some (.cell t n g :: s)
    | _,_,_ => none
def cFuncB (br : Bool) (f : Nat) (fn : Func) : Option AFunc :=
  match fn.body,cRes P fn.results.toList with
  | some c,some rs => cond (Nat.ble (loopsN c) 50 && (Nat.beq (loopsN c) 0 || Nat.blt f 1000)) ((cCode P br (qBase f) fn.ntmps c).map fun b => ⟨rs,b⟩) none
  | _,_ => none
end
end Go.Am
