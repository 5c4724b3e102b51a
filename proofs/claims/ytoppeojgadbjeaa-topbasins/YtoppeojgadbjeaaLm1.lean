/-
  THE LIST MACHINE, 1: a machine above the abstract one: lists that are only read are values; a call of a function without memory of its own gives a value alone. Its values, memory, operations and code. No statement of the seat is proved here.
-/
import Derived.Test.YtoppeojgadbjeaaAm18
namespace Go.Am
inductive LV where
  | undef
  | bool (b : Bool)
  | int (k : IntKind) (n : Int)
  | nilptr
  | nilFunc
  | nilIface
  | ptr (i o L : Nat)
  | elt (cs : List LV) (o : Nat)
  | lst (nl ex : Bool) (sz n : Nat) (cs : List LV)
  | sl (i o n cap g sz L : Nat)
  | func (f : Nat) (first cap : List LV)
  | agg (cs : List LV)
  | tup (vs : List LV)
  | map (i : Nat)
  | nilmap
  | ents (es : List LV)
  | away (n b : Nat) (s x : LV)
instance : Inhabited LV := ⟨.undef⟩
mutual
def ofAV : AV → LV
  | .bool b => .bool b
  | .int k n => .int k n
  | .nilptr => .nilptr
  | .nilslice => .lst true true 0 0 []
  | .nilFunc => .nilFunc
  | .nilIface => .nilIface
  | .func f a b => .func f (ofAVs a) (ofAVs b)
  | .agg cs => .agg (ofAVs cs)
  | .nilmap => .nilmap
  | .tup _ | .ptr _ _ | .slice .. | .map _ | .ents _ | .away .. => .undef
def ofAVs : List AV → List LV
  | [] => []
  | a :: r => ofAV a :: ofAVs r
end
mutual
def LV.pure : LV → Bool
  | .ptr .. | .sl .. | .map _ | .ents _ | .away .. => false
  | .func _ a b => LV.pures a && LV.pures b
  | .agg cs | .tup cs => LV.pures cs
  | _ => true
def LV.pures : List LV → Bool
  | [] => true
  | a :: r => LV.pure a && LV.pures r
end
mutual
def LV.under (k : Nat) : LV → Bool
  | .ptr i _ _ | .sl i _ _ _ _ _ _ | .map i => Nat.blt i k
  | .ents es => LV.unders k es
  | .away _ _ s x => LV.under k s && LV.under k x
  | .func _ a b => LV.unders k a && LV.unders k b
  | .agg cs | .tup cs => LV.unders k cs
  | _ => true
def LV.unders (k : Nat) : List LV → Bool
  | [] => true
  | a :: r => LV.under k a && LV.unders k r
end
mutual
def LV.plain : LV → Bool
  | .bool _ | .int _ _ | .nilptr | .nilFunc | .nilIface | .nilmap => true
  | .agg cs | .tup cs => LV.plains cs
  | _ => false
def LV.plains : List LV → Bool
  | [] => true
  | a :: r => LV.plain a && LV.plains r
end
mutual
def LV.solid : LV → Bool
  | .undef | .elt _ _ => false
  | .lst nl _ _ _ _ => nl
  | .func _ a b => LV.solids a && LV.solids b
  | .agg cs | .tup cs | .ents cs => LV.solids cs
  | .away _ _ s x => LV.solid s && LV.solid x
  | _ => true
def LV.solids : List LV → Bool
  | [] => true
  | a :: r => LV.solid a && LV.solids r
end
mutual
def LV.shift (k : Nat) : LV → LV
  | .ptr i o L => .ptr (i + k) o L
  | .sl i o n cap g sz L => .sl (i + k) o n cap g sz L
  | .func f a b => .func f (LV.shifts k a) (LV.shifts k b)
  | .agg cs => .agg (LV.shifts k cs)
  | .tup cs => .tup (LV.shifts k cs)
  | .map i => .map (i + k)
  | .ents es => .ents (LV.shifts k es)
  | .away n b s x => .away n b (LV.shift k s) (LV.shift k x)
  | v => v
def LV.shifts (k : Nat) : List LV → List LV
  | [] => []
  | a :: r => LV.shift k a :: LV.shifts k r
end
def LV.scalar : LV → Bool
  | .agg _ | .tup _ | .undef | .ents _ | .away .. => false
  | _ => true
def LV.cells : LV → Option (List LV)
  | .agg cs => some cs
  | .tup _ | .undef | .ents _ | .away .. => none
  | v => some [v]
structure LBlk where
  cells : List LV
  own : Bool
abbrev LMem := List LBlk
abbrev LEnv := List (Nat × LV)
def LEnv.at : LEnv → Nat → LV
  | [],_ => .undef
  | (k,v) :: r,n => cond (Nat.beq k n) v (LEnv.at r n)
def LEnv.keep (e : LEnv) (ks : List Nat) : LEnv := ks.map fun k => (k,e.at k)
def LEnv.ofFrom : Nat → List LV → LEnv
  | _,[] => []
  | n,v :: r => (n,v) :: LEnv.ofFrom (n + 1) r
def freeze1 (lm : LMem) (i : Nat) : LMem := match lm[i]? with
  | some b => lm.set i ⟨b.cells,false⟩
  | none => lm
def freeze : List Nat → LMem → LMem
  | [],lm => lm
  | i :: r,lm => freeze r (freeze1 lm i)
mutual
def view : Nat → LMem → LV → Option (LV × List Nat)
  | 0,_,_ => none
  | k + 1,lm,v => match v with
    | .ptr i o L => match lm[i]? with
      | some b => cond (Nat.beq b.cells.length L) (match viewL k lm b.cells with | some (cs,ids) => some (.elt cs o,i :: ids) | none => none) none
      | none => none
    | .sl i o n cap g sz L => match lm[i]? with
      | some b => cond (Nat.beq b.cells.length L && Nat.ble (o + n * sz) L && Nat.ble n cap)
          (match viewL k lm ((b.cells.drop o).take (n * sz)) with | some (cs,ids) => some (.lst false (Nat.beq g 0 && Nat.beq cap n) sz n cs,i :: ids) | none => none) none
      | none => none
    | .func f a b => match viewL k lm a with
      | some (a',i1) => match viewL k lm b with
        | some (b',i2) => some (.func f a' b',i1 ++ i2)
        | none => none
      | none => none
    | .agg cs => match viewL k lm cs with
      | some (cs',ids) => some (.agg cs',ids)
      | none => none
    | .tup cs => match viewL k lm cs with
      | some (cs',ids) => some (.tup cs',ids)
      | none => none
    | .map _ | .ents _ | .away .. => none
    | v => some (v,[])
def viewL : Nat → LMem → List LV → Option (List LV × List Nat)
  | 0,_,_ => none
  | k + 1,lm,l => match l with
    | [] => some ([],[])
    | _ => cond (LV.pures l) (some (l,[])) (viewC k lm l)
def viewC : Nat → LMem → List LV → Option (List LV × List Nat)
  | 0,_,_ => none
  | k + 1,lm,l => match l with
    | [] => some ([],[])
    | a :: r => match view k lm a with
      | some (a',i1) => match viewC k lm r with
        | some (r',i2) => some (a' :: r',i1 ++ i2)
        | none => none
      | none => none
end
def views (lm : LMem) (l : List LV) : Option (List LV × List Nat) := viewL 100 lm l
variable [Glo]
def evC : AV → LV
  | .bool b => .bool b
  | .int k n => .int k n
  | .nilptr => .nilptr
  | .nilslice => .lst true true 0 0 []
  | .nilFunc => .nilFunc
  | .nilIface => .nilIface
  | .func f a b => .func f (ofAVs a) (ofAVs b)
  | .agg cs => .agg (ofAVs cs)
  | .ptr g o => match Glo.tab g with
    | some l => .elt (ofAVs l) o
    | none => .undef
  | .nilmap => .nilmap
  | .tup _ | .slice .. | .map _ | .ents _ | .away .. => .undef
def evL (e : LEnv) : Opd → LV
  | .t n => e.at n
  | .c v => evC v
def cellsAt (cs : List LV) (o : Nat) (agg : Bool) (n : Nat) : Option LV :=
  cond agg (cond (Nat.ble (o + n) cs.length) (some (.agg ((cs.drop o).take n))) none) cs[o]?
def loadL (lm : LMem) (agg : Bool) (n : Nat) : LV → Option LV
  | .ptr i o L => match lm[i]? with
    | some b => cond (Nat.beq b.cells.length L) (cellsAt b.cells o agg n) none
    | none => none
  | .elt cs o => cellsAt cs o agg n
  | _ => none
def spliceL (l : List LV) (o : Nat) (vs : List LV) : List LV := l.take o ++ vs ++ l.drop (o + vs.length)
def storeL (lm : LMem) (n : Nat) (a v : LV) : Option LMem :=
  match a with
  | .ptr i o L => match lm[i]? with
    | some b => match v.cells with
      | some vs => cond (b.own && (Nat.beq b.cells.length L && (Nat.beq vs.length n && (Nat.ble (o + n) L && vs.all LV.scalar)))) (some (lm.set i ⟨spliceL b.cells o vs,true⟩)) none
      | none => none
    | none => none
  | _ => none
def fillL (cells : List LV) : List (Nat × Nat × LV) → Option (List LV)
  | [] => some cells
  | (off,size,v) :: rest => match v.cells with
    | some vs => cond (Nat.beq vs.length size && Nat.ble (off + size) cells.length) (fillL (spliceL cells off vs) rest) none
    | none => none
def zerosL (zero : List LV) (n : Nat) : List LV := (List.range n).map fun i => zero.getD (i % zero.length) .undef
def binL (op : BinOp) (x y : LV) : Option LV :=
  match x,y with
  | .int k a,.int k' b => match aBin op (.int k a) (.int k' b) with
    | some v => some (ofAV v)
    | none => none
  | _,_ => none
def nilOf : LV → Option Bool
  | .lst nl _ _ _ _ => some nl
  | .sl .. => some false
  | _ => none
def eqsL (x y : LV) : Option Bool :=
  match nilOf x,nilOf y with
  | some a,some b => cond b (some a) (cond a (some false) none)
  | _,_ => none
def unL (op : UnOp) (x : LV) : Option LV :=
  match op,x with
  | .neg,.int k n => some (.int k (k.wrap (0 - n)))
  | .not,.bool b => some (.bool !b)
  | _,_ => none
def eqIntsL : List LV → List LV → Option Bool
  | [],[] => some true
  | .int k a :: r,.int k' b :: s => cond (k == k') (match eqIntsL r s with | some q => some (a == b && q) | none => none) none
  | _,_ => none
def natL : LV → Option Nat
  | .int _ n => cond (decide (0 ≤ n)) (some n.toNat) none
  | _ => none
def optNatL (d : Nat) : Option LV → Option Nat
  | none => some d
  | some v => natL v
def sliceL (size : Nat) (x : LV) (lo hi mx : Option LV) : Option LV :=
  match x with
  | .sl i o n cap g sz L =>
    match optNatL cap mx,optNatL n hi,optNatL 0 lo with
    | some m,some h,some l => cond (Nat.ble m cap && (Nat.ble h m && Nat.ble l h) && (mx.isSome || (Nat.beq g 0 || Nat.beq g size))) (some (.sl i (o + l * size) (h - l) (m - l) (cond mx.isSome 0 g) sz L)) none
    | _,_,_ => none
  | .lst nl ex sz n cs =>
    match mx with
    | none => match optNatL n hi,optNatL 0 lo with
      | some h,some l => cond ((nl || Nat.beq size sz) && (Nat.ble h n && Nat.ble l h)) (some (.lst nl (ex && Nat.beq h n) sz (h - l) ((cs.drop (l * sz)).take ((h - l) * sz)))) none
      | _,_ => none
    | some m => match natL m,optNatL n hi,optNatL 0 lo with
      | some m,some h,some l => cond ((nl || Nat.beq size sz) && (Nat.ble m n && (Nat.ble h m && Nat.ble l h))) (some (.lst nl (Nat.beq h m) sz (h - l) ((cs.drop (l * sz)).take ((h - l) * sz)))) none
      | _,_,_ => none
  | _ => none
def contents (lm : LMem) (size : Nat) : LV → Option (List LV × Nat)
  | .lst _ _ sz n cs => cond (Nat.beq n 0 || Nat.beq size sz) (some (cs,n)) none
  | .sl i o n _ _ _ L => match lm[i]? with
    | some b => cond (Nat.beq b.cells.length L && Nat.ble (o + n * size) L) (some ((b.cells.drop o).take (n * size),n)) none
    | none => none
  | _ => none
def lenL : LV → Option Nat
  | .lst _ _ _ n _ => some n
  | .sl _ _ n _ _ _ _ => some n
  | _ => none
def newSl (lm : LMem) (size n : Nat) (cs : List LV) : LV × LMem := (.sl lm.length 0 n n size size (n * size),lm ++ [⟨cs,true⟩])
def appendL (lm : LMem) (size bytes : Nat) (s x : LV) : Option (LV × LMem) :=
  match contents lm size s,contents lm size x with
  | some (olds, n),some (news,k) =>
    cond (Nat.beq k 0) (match s with | .sl _ _ n cap _ _ _ => cond (Nat.ble n cap) (some (s,lm)) none | _ => some (s,lm)) <|
    cond (Nat.ble ((n + k) * bytes) roomMost && Nat.ble (n + k) roomMost && news.all LV.scalar) (
      match s with
      | .lst nl ex _ _ _ => cond (nl || ex) (some (newSl lm size (n + k) (olds ++ news))) none
      | .sl i o _ cap g sz L => match lm[i]? with
        | none => none
        | some b =>
          cond (Nat.ble (n + k) cap)
            (cond (b.own && Nat.ble (o + (n + k) * size) L) (some (.sl i o (n + k) cap g sz L,lm.set i ⟨spliceL b.cells (o + n * size) news,true⟩)) none)
            (cond (Nat.beq g 0) (some (newSl lm size (n + k) (olds ++ news)))
              (cond (b.own && Nat.beq g size && Nat.blt 0 L)
                (cond (Nat.blt L ((n + k) * size)) (some (.sl i 0 (n + k) (n + k) size size ((n + k) * size),lm.set i ⟨olds ++ news,true⟩))
                  (some (newSl (lm.set i ⟨[],false⟩) size (n + k) (olds ++ news)))) none))
      | _ => none) none
  | _,_ => none
def awayL (lm : LMem) (s x : LV) : Bool :=
  match lenL x with
  | some k => !(Nat.beq k 0) && (match s with
    | .lst nl ex sz n _ => nl || (ex && (Nat.blt 0 n && Nat.blt 0 sz))
    | .sl i o n cap g _ L => match lm[i]? with
      | some b => Nat.beq b.cells.length L && (Nat.beq o 0 && (Nat.beq (n * g) L && (Nat.blt 0 n && (Nat.blt cap (n + k) && !(Nat.beq g 0)))))
      | none => false
    | _ => false)
  | none => false
def copyL (lm : LMem) (size : Nat) (d s : LV) : Option (LV × LMem) :=
  match contents lm size s,d with
  | some (_,_),.lst true _ _ _ _ => some (.int .i64 0,lm)
  | some (news,k),.sl i o n _ _ _ L =>
    match lm[i]? with
    | none => none
    | some b => cond (b.own && (Nat.beq b.cells.length L && (Nat.ble (o + n * size) L && news.all LV.scalar)))
        (some (.int .i64 (Nat.min k n),lm.set i ⟨spliceL b.cells o (news.take (Nat.min k n * size)),true⟩)) none
  | _,_ => none
def clrL (lm : LMem) (z : AV) (s : LV) : Option LMem :=
  match s with
  | .lst true _ _ _ _ => some lm
  | .sl i o n _ _ _ L =>
    match lm[i]? with
    | none => none
    | some b => cond (b.own && (Nat.beq b.cells.length L && (Nat.ble (o + n) L && z.scalar)))
        (some (lm.set i ⟨spliceL b.cells o (List.replicate n (ofAV z)),true⟩)) none
  | _ => none
def clrsL (lm : LMem) (z : List AV) (s : LV) : Option LMem :=
  match s with
  | .lst true _ _ _ _ => some lm
  | .sl i o n _ _ _ L =>
    match lm[i]? with
    | none => none
    | some b => cond (b.own && (Nat.beq b.cells.length L && (Nat.ble (o + n * z.length) L && z.all AV.scalar)))
        (some (lm.set i ⟨spliceL b.cells o (zerosL (ofAVs z) (n * z.length)),true⟩)) none
  | _ => none
def sliceArrL (n size : Nat) (x : LV) (lo hi : Option LV) : Option LV :=
  match x with
  | .ptr i o L => match optNatL n hi,optNatL 0 lo with
    | some h,some l => cond (Nat.ble h n && Nat.ble l h) (some (.sl i (o + l * size) (h - l) (n - l) 0 size L)) none
    | _,_ => none
  | _ => none
def keyEqL : LV → LV → Option Bool
  | .int k a,.int k' b => cond (k == k') (some (a == b)) none
  | _,_ => none
def findML (k : LV) : List LV → Nat → Option (Option (Nat × LV))
  | [],_ => some none
  | [_],_ => none
  | k' :: v :: r,i => match keyEqL k k' with
    | some true => some (some (i,v))
    | some false => findML k r (i + 2)
    | none => none
def entsL (lm : LMem) : LV → Option (List LV)
  | .nilmap => some []
  | .map i => match lm[i]? with
    | some b => match b.cells with
      | [.ents es] => some es
      | _ => none
    | none => none
  | _ => none
def LV.isInt : LV → Bool
  | .int _ _ => true
  | _ => false
def lookL (lm : LMem) (ck : Bool) (zero : LV) (x k : LV) : Option LV :=
  cond k.isInt (match entsL lm x with
  | some es => match findML k es 0 with
    | some (some (_,v)) => some (cond ck (.tup [v,.bool true]) v)
    | some none => some (cond ck (.tup [zero,.bool false]) zero)
    | none => none
  | none => none) none
def putML (lm : LMem) (x k v : LV) : Option LMem :=
  match x with
  | .map i => cond k.isInt (match lm[i]? with
    | some b => match b.cells with
      | [.ents es] => cond b.own (match findML k es 0 with
        | some (some (j,_)) => some (lm.set i ⟨[.ents (es.set (j + 1) v)],true⟩)
        | some none => some (lm.set i ⟨[.ents (es ++ [k,v])],true⟩)
        | none => none) none
      | _ => none
    | none => none) none
  | _ => none
def foldIntL (f : Int → Int → Int) : LV → List LV → Option LV
  | v,[] => some v
  | .int k a,.int k' b :: r => cond (k == k') (foldIntL f (.int k (f a b)) r) none
  | _,_ => none
def allocL (lm : LMem) (cs : List LV) : LV × LMem := (.ptr lm.length 0 cs.length,lm ++ [⟨cs,true⟩])
def stepL (e : LEnv) (lm : LMem) : AOp → Option (LV × LMem)
  | .mov x => some (evL e x,lm)
  | .pick c a b => match evL e c with
    | .bool t => some (cond t (evL e a) (evL e b),lm)
    | _ => none
  | .box x => match (evL e x).cells with
    | some cs => some (allocL lm cs)
    | none => none
  | .zero z => some (allocL lm (ofAVs z))
  | .build z ps => match fillL (ofAVs z) (ps.map fun p => (p.1,p.2.1,evL e p.2.2)) with
    | some cs => some (.agg cs,lm)
    | none => none
  | .buildS z len ps => match fillL (ofAVs z) (ps.map fun p => (p.1,p.2.1,evL e p.2.2)) with
    | some cs => cond (Nat.beq (len * (z.length / len)) z.length || Nat.beq len 0) (match views lm cs with
      | some (cs',ids) => some (.lst false true (z.length / len) len (cs'.take (len * (z.length / len))),freeze ids lm)
      | none => none) none
    | none => none
  | .load agg n a => match loadL lm agg n (evL e a) with
    | some v => some (v,lm)
    | none => none
  | .store n a x => match storeL lm n (evL e a) (evL e x) with
    | some lm' => some (.undef,lm')
    | none => none
  | .nilCheck x => match evL e x with
    | .ptr i o L => some (.ptr i o L,lm)
    | .elt cs o => some (.elt cs o,lm)
    | .func f a b => some (.func f a b,lm)
    | _ => none
  | .bin op x y => match binL op (evL e x) (evL e y) with
    | some v => some (v,lm)
    | none => none
  | .eqa neg n x y => match evL e x,evL e y with
    | .agg xs,.agg ys => cond (Nat.beq xs.length n && Nat.beq ys.length n) (match eqIntsL xs ys with | some q => some (.bool (Bool.xor neg q),lm) | none => none) none
    | _,_ => none
  | .eqs neg x y => match eqsL (evL e x) (evL e y) with
    | some q => some (.bool (Bool.xor neg q),lm)
    | none => none
  | .eqb neg x y => match evL e x,evL e y with
    | .bool a,.bool b => some (.bool (Bool.xor neg (a == b)),lm)
    | _,_ => none
  | .un op x => match unL op (evL e x) with
    | some v => some (v,lm)
    | none => none
  | .conv k x => match evL e x with
    | .int _ n => some (.int k (k.wrap n),lm)
    | _ => none
  | .fieldA off x => match evL e x with
    | .ptr i o L => some (.ptr i (o + off) L,lm)
    | .elt cs o => some (.elt cs (o + off),lm)
    | _ => none
  | .field off n agg x => match evL e x with
    | .agg cs => cond agg (some (.agg ((cs.drop off).take n),lm)) (match cs[off]? with | some v => some (v,lm) | none => none)
    | _ => none
  | .idxA arr size x i => match natL (evL e i) with
    | none => none
    | some j => match arr,evL e x with
      | some len,.ptr b o L => cond (Nat.blt j len) (some (.ptr b (o + j * size) L,lm)) none
      | some len,.elt cs o => cond (Nat.blt j len) (some (.elt cs (o + j * size),lm)) none
      | none,.sl b o n _ _ _ L => cond (Nat.blt j n) (some (.ptr b (o + j * size) L,lm)) none
      | none,.lst _ _ _ n cs => cond (Nat.blt j n) (some (.elt cs (j * size),lm)) none
      | _,_ => none
  | .idx len size agg x i => match natL (evL e i),evL e x with
    | some j,.agg cs => cond (Nat.blt j len) (cond agg (some (.agg ((cs.drop (j * size)).take size),lm)) (match cs[j * size]? with | some v => some (v,lm) | none => none)) none
    | _,_ => none
  | .mkS z bytes size l c => match natL (evL e l),natL (evL e c) with
    | some n,some k => cond (Nat.ble n k && Nat.ble (k * bytes) roomMost && Nat.ble k roomMost)
        (some (.sl lm.length 0 n k 0 size (k * size),lm ++ [⟨zerosL (ofAVs z) (k * size),true⟩])) none
    | _,_ => none
  | .slc size x lo hi mx => match sliceL size (evL e x) (lo.map (evL e)) (hi.map (evL e)) (mx.map (evL e)) with
    | some v => some (v,lm)
    | none => none
  | .slcA n size x lo hi => match sliceArrL n size (evL e x) (lo.map (evL e)) (hi.map (evL e)) with
    | some v => some (v,lm)
    | none => none
  | .mkF f xs ys => some (.func f (xs.map (evL e)) (ys.map (evL e)),lm)
  | .ext x i => match evL e x with
    | .tup vs => match vs[i]? with
      | some v => some (v,lm)
      | none => none
    | _ => none
  | .len x => match lenL (evL e x) with
    | some n => some (.int .i64 n,lm)
    | none => none
  | .append size bytes s x => appendL lm size bytes (evL e s) (evL e x)
  | .copy size d s => copyL lm size (evL e d) (evL e s)
  | .clr z s => match clrL lm z (evL e s) with
    | some m' => some (.undef,m')
    | none => none
  | .clrs z s => match clrsL lm z (evL e s) with
    | some m' => some (.undef,m')
    | none => none
  | .max xs => match (xs.map (evL e) : List LV) with
    | .int k a :: r => match foldIntL (fun x y => if y > x then y else x) (.int k a) r with
      | some v => some (v,lm)
      | none => none
    | _ => none
  | .min xs => match (xs.map (evL e) : List LV) with
    | .int k a :: r => match foldIntL (fun x y => if y < x then y else x) (.int k a) r with
      | some v => some (v,lm)
      | none => none
    | _ => none
  | .mkM => some (.map lm.length,lm ++ [⟨[.ents []],true⟩])
  | .lookM ck z x k => match lookL lm ck (ofAV z) (evL e x) (evL e k) with
    | some v => some (v,lm)
    | none => none
  | .putM x k v => match putML lm (evL e x) (evL e k) (evL e v) with
    | some m' => some (.undef,m')
    | none => none
  | .appZ n b s x => cond (awayL lm (evL e s) (evL e x)) (match appendL lm n b (evL e s) (evL e x) with
    | some _ => some (.away n b (evL e s) (evL e x),lm)
    | none => none) none
  | .call _ _ | .callZ _ _ | .fail => none
def opdsOf : AOp → Option (List Opd)
  | .mov x | .nilCheck x | .un _ x | .conv _ x | .fieldA _ x | .field _ _ _ x | .ext x _ | .len x => some [x]
  | .pick c a b => some [c,a,b]
  | .bin _ x y | .eqa _ _ x y | .eqs _ x y | .eqb _ x y | .idxA _ _ x y | .idx _ _ _ x y => some [x,y]
  | .load _ _ a => some [a]
  | _ => none
def wantL (e : LEnv) : Option (Nat × Bool) → Option Bool
  | none => some true
  | some (t,want) => match e.at t with
    | .bool b => some (b == want)
    | .tup _ => some false
    | _ => none
def putL (e : LEnv) (d : Option Nat) (v : LV) : LEnv :=
  match d with
  | some t => (t,v) :: e
  | none => e
structure Trk where
  start : Nat
  all : Bool
  tch : List Nat
  new : List Nat
  cnt : Nat
  hist : List (Option LMem)
def Trk.hit (k : Trk) (i : Nat) : Bool := k.all || (Nat.ble k.start i || k.tch.any (Nat.beq i))
def Trk.fresh (k : Trk) : Opd → Bool
  | .t n => k.new.any (Nat.beq n)
  | .c _ => false
def Trk.putNew (k : Trk) (d : Option Nat) (b : Bool) : Trk :=
  match d with
  | some t => ⟨k.start,k.all,k.tch,cond b (t :: k.new) (k.new.filter fun n => !(Nat.beq n t)),k.cnt,k.hist⟩
  | none => k
def Trk.up (k : Trk) (b : Bool) (m : Option LMem) : Trk := ⟨k.start,k.all,k.tch,k.new,cond b (k.cnt + 1) k.cnt,cond b (m :: k.hist) k.hist⟩
def Trk.calm (k : Trk) (a : Opd) (v : LV) : Bool :=
  match v with
  | .ptr i _ _ => !(k.hit i)
  | .elt _ _ => !(k.fresh a)
  | _ => false
def Trk.touch (k : Trk) (e : LEnv) : AOp → Trk
  | .store _ a _ => match evL e a with
    | .ptr i _ _ => ⟨k.start,k.all,i :: k.tch,k.new,k.cnt,k.hist⟩
    | _ => k
  | .append _ _ s _ => match evL e s with
    | .sl i _ _ _ _ _ _ => ⟨k.start,k.all,i :: k.tch,k.new,k.cnt,k.hist⟩
    | _ => k
  | .copy _ d _ => match evL e d with
    | .sl i _ _ _ _ _ _ => ⟨k.start,k.all,i :: k.tch,k.new,k.cnt,k.hist⟩
    | _ => k
  | .clr _ d => match evL e d with
    | .sl i _ _ _ _ _ _ => ⟨k.start,k.all,i :: k.tch,k.new,k.cnt,k.hist⟩
    | _ => k
  | .clrs _ d => match evL e d with
    | .sl i _ _ _ _ _ _ => ⟨k.start,k.all,i :: k.tch,k.new,k.cnt,k.hist⟩
    | _ => k
  | .putM d _ _ => match evL e d with
    | .map i => ⟨k.start,k.all,i :: k.tch,k.new,k.cnt,k.hist⟩
    | _ => k
  | _ => k
def Trk.gives (k : Trk) (e : LEnv) (op : AOp) : Bool :=
  match op with
  | .load _ _ a => !(k.calm a (evL e a))
  | op => match opdsOf op with
    | some l => l.any k.fresh
    | none => true
mutual
def LV.firm (m : LMem) : LV → Bool
  | .bool _ | .int _ _ | .nilptr | .nilFunc | .nilIface | .nilmap => true
  | .ptr i _ L => match m[i]? with
    | some b => Nat.beq b.cells.length L
    | none => false
  | .func _ a b => LV.firms m a && LV.firms m b
  | _ => false
def LV.firms (m : LMem) : List LV → Bool
  | [] => true
  | a :: r => LV.firm m a && LV.firms m r
end
mutual
def LV.sameF : LV → LV → Bool
  | .bool a,.bool b => a == b
  | .int k a,.int k' b => k == k' && a == b
  | .nilptr,.nilptr => true
  | .nilFunc,.nilFunc => true
  | .ptr i o L,.ptr i' o' L' => Nat.beq i i' && (Nat.beq o o' && Nat.beq L L')
  | .func f a b,.func f' a' b' => Nat.beq f f' && (LV.sameFs a a' && LV.sameFs b b')
  | _,_ => false
def LV.sameFs : List LV → List LV → Bool
  | [],[] => true
  | a :: r,b :: q => LV.sameF a b && LV.sameFs r q
  | _,_ => false
end
def firmAll (g : Bool) (n : Nat) (a v : LV) : Nat → List (Option LMem) → Bool
  | 0,_ => true
  | k + 1,some m :: r => (match loadL m g n a with | some v' => LV.sameF v' v && LV.firm m v' | none => false) && firmAll g n a v k r
  | _,_ => false
def firmLoad (m : LMem) (g : Bool) (n : Nat) (a : LV) (back : Nat) (h : List (Option LMem)) : Bool :=
  match a with
  | .ptr _ _ _ => match loadL m g n a with
    | some v => LV.firm m v && firmAll g n a v back h
    | none => false
  | _ => false
def loadFine (k : Trk) (e : LEnv) (m : LMem) (back : Nat) : AOp → Bool
  | .load g n a => Nat.beq back 0 || (k.calm a (evL e a) && Nat.ble back k.cnt) || (!(k.calm a (evL e a)) && firmLoad m g n (evL e a) back k.hist)
  | _ => true
inductive Mode where
  | P | O | R | W
  deriving DecidableEq
abbrev CallL := Nat → List LV → LMem → Option (Mode × LV × LMem)
mutual
def LV.noRef (i : Nat) : LV → Bool
  | .ptr j _ _ | .sl j _ _ _ _ _ _ | .map j => !(Nat.beq j i)
  | .func _ a b => LV.noRefs i a && LV.noRefs i b
  | .agg cs | .tup cs | .ents cs => LV.noRefs i cs
  | .away _ _ s x => LV.noRef i s && LV.noRef i x
  | _ => true
def LV.noRefs (i : Nat) : List LV → Bool
  | [] => true
  | a :: r => LV.noRef i a && LV.noRefs i r
end
def sameInts (xs ys : List LV) : Bool := match eqIntsL xs ys with | some q => q | none => false
def giveBackL (lm lm1 lm2 : LMem) (s : LV) : Option LMem :=
  match s with
  | .sl i _ _ _ _ _ _ => match lm[i]?,lm1[i]?,lm2[i]? with
    | some b0,some b1,some b2 => cond (b2.own && (sameInts b2.cells b1.cells && lm2.all fun b => LV.noRefs i b.cells)) (some (lm2.set i b0)) none
    | _,_,_ => none
  | _ => some lm2
def branchL (cf : CallL) (g : Nat) (first cap args : List LV) (m : LMem) : Option (LV × LMem) :=
  match args with
  | .away n b s x :: r => cond (Nat.blt g 100000 && awayL m s x) (match appendL m n b s x with
    | some (v,m1) => match cf g (first ++ ((v :: r) ++ cap)) m1 with
      | some (_,q,m2) => match giveBackL m m1 m2 s with
        | some m3 => cond q.plain (some (q,m3)) none
        | none => none
      | none => none
    | none => none) none
  | _ => none
def runL (cf : CallL) : List AOper → LEnv → LMem → Trk → Option (LEnv × LMem)
  | [],e,m,_ => some (e,m)
  | o :: rest,e,m,k =>
    match wantL e o.guard with
    | none => none
    | some false => runL cf rest (putL e o.dst (.tup [])) m ((k.putNew o.dst true).up o.eff none)
    | some true =>
      match o.op with
      | .call f args => match evL e f with
        | .func g first cap => match cf g (first ++ (args.map (evL e) ++ cap)) m with
          | some (md,v,m') => runL cf rest (putL e o.dst v) m' (((match md with | .W => ⟨k.start,true,k.tch,k.new,k.cnt,k.hist⟩ | _ => k : Trk).putNew o.dst true).up true (some m'))
          | none => none
        | _ => none
      | .callZ f args => match evL e f with
        | .func g first cap => match branchL cf g first cap (args.map (evL e)) m with
          | some (v,m') => runL cf rest (putL e o.dst v) m' (((⟨k.start,true,k.tch,k.new,k.cnt,k.hist⟩ : Trk).putNew o.dst true).up true (some m'))
          | none => none
        | _ => none
      | op => cond (loadFine k e m o.back op)
          (match stepL e m op with
          | some (v,m') => runL cf rest (putL e o.dst v) m' (((k.touch e op).putNew o.dst (k.gives e op)).up o.eff none)
          | none => none) none
inductive LCode where
  | skip
  | region (r : Nat) (ks : List Nat) (ops : List AOper)
  | seq (a b : LCode)
  | cond (c : Opd) (a b : LCode)
  | block (id : Nat) (b : LCode)
  | loop (tr : Bool) (ks : List Nat) (b : LCode)
  | exit (id : Nat) (ks : List Nat)
  | ret (ks : List Nat)
  | fail
def LCode.erase : LCode → ACode
  | .skip => .skip
  | .region r _ ops => .region r ops
  | .seq a b => .seq a.erase b.erase
  | .cond c a b => .cond c a.erase b.erase
  | .block id b => .block id b.erase
  | .loop _ _ b => .loop b.erase
  | .exit id _ => .exit id
  | .ret _ => .ret
  | .fail => .fail
def slotsOf : List AOper → List Nat
  | [] => []
  | o :: r => match o.slot with
    | some q => q :: slotsOf r
    | none => slotsOf r
def nodupB : List Nat → Bool
  | [] => true
  | a :: r => !(r.any (Nat.beq a)) && nodupB r
def LCode.good : LCode → Bool
  | .region r _ ops => nodupB (slotsOf ops) && (slotsOf ops).all fun q => Nat.blt q r
  | .seq a b => a.good && b.good
  | .cond _ a b => a.good && b.good
  | .block _ b => b.good
  | .loop _ _ b => b.good
  | _ => true
structure LFunc where
  mode : Mode
  results : List ARes
  body : LCode
abbrev LProg := Nat → Option LFunc
def resOfL (e : LEnv) (m : LMem) : ARes → Option LV
  | .tmp t => some (e.at t)
  | .cell t n agg => loadL m agg n (e.at t)
def resAllL (e : LEnv) (m : LMem) : List ARes → Option (List LV)
  | [] => some []
  | r :: rest => match resOfL e m r with
    | some v => match resAllL e m rest with
      | some vs => some (v :: vs)
      | none => none
    | none => none
def resultsL (rs : List ARes) (e : LEnv) (m : LMem) : Option LV :=
  match resAllL e m rs with
  | some [v] => some v
  | some vs => some (.tup vs)
  | none => none
def belowM (k : Nat) (m : LMem) : Bool := m.all fun b => LV.unders k b.cells
def trim (k : Nat) (vs : List LV) (m : LMem) : LMem := cond (LV.unders k vs && belowM k (m.take k)) (m.take k) m
def envVals (e : LEnv) : List LV := e.map (·.2)
def roM (m : LMem) : LMem := m.map fun b => ⟨b.cells,false⟩
def newOnly (v : LV) (m : LMem) : Bool := v.solid && m.all fun b => b.own && LV.solids b.cells
def newIds (v : LV) (m : LMem) (ids : List Nat) : Bool := v.solid && ids.all fun i => match m[i]? with
  | some b => b.own && LV.solids b.cells
  | none => false
def callMode (run : List LV → LMem → Option (LV × LMem)) (md : Mode) (args : List LV) (m : LMem) : Option (Mode × LV × LMem) :=
  match md with
  | .P => match views m args with
    | some (vs,ids) => match run vs [] with
      | some (v,m1) => match view 100 m1 v with
        | some (v',ids1) => some (.P,v',cond (ids.isEmpty || (v'.plain || newIds v m1 ids1)) m (freeze ids m))
        | none => none
      | none => none
    | none => none
  | .O => match views m args with
    | some (vs,ids) => match run vs [] with
      | some (v,m1) => some (.O,v.shift m.length,cond (newOnly v m1) m (freeze ids m) ++ m1.map fun b => ⟨LV.shifts m.length b.cells,b.own⟩)
      | none => none
    | none => none
  | .R => match run args (roM m) with
    | some (v,_) => cond v.plain (some (.R,v,m)) none
    | none => none
  | .W => match run args m with
    | some (v,m1) => some (.W,v,trim m.length [v] m1)
    | none => none
def retL (rs : List ARes) : Option (AExit × LEnv × LMem) → Option (LV × LMem)
  | some (.normal,e,m) => match resultsL rs e m with | some v => some (v,m) | none => none
  | some (.ret,e,m) => match resultsL rs e m with | some v => some (v,m) | none => none
  | _ => none
def execL (C : LProg) : Nat → LCode → LEnv → LMem → Option (AExit × LEnv × LMem)
  | 0,_,_,_ => none
  | n + 1,c,e,m =>
    match c with
    | .skip => some (.normal,e,m)
    | .region _ ks ops =>
      match runL (fun f args m => match C f with
        | some lf => callMode (fun vs m => retL lf.results (execL C n lf.body (LEnv.ofFrom 0 vs) m)) lf.mode args m
        | none => none) ops e m ⟨m.length,false,[],[],1,[some m]⟩ with
      | some (e',m') => some (.normal,e'.keep ks,m')
      | none => none
    | .seq a b => match execL C n a e m with
      | some (.normal,e',m') => execL C n b e' m'
      | r => r
    | .cond c a b => match evL e c with
      | .bool true => execL C n a e m
      | .bool false => execL C n b e m
      | _ => none
    | .block id b => match execL C n b e m with
      | some (.exit id',e',m') => cond (Nat.beq id' id) (some (.normal,e',m')) (some (.exit id',e',m'))
      | r => r
    | .loop tr ks b => match execL C n b (e.keep ks) m with
      | some (.normal,e',m') => execL C n (.loop tr ks b) (e'.keep ks) (cond tr (trim m.length (envVals (e'.keep ks)) m') m')
      | r => r
    | .exit id ks => some (.exit id,e.keep ks,m)
    | .ret ks => some (.ret,e.keep ks,m)
    | .fail => none
def callL (C : LProg) (n : Nat) : CallL := fun f args m => match C f with
  | some lf => callMode (fun vs m => retL lf.results (execL C n lf.body (LEnv.ofFrom 0 vs) m)) lf.mode args m
  | none => none
end Go.Am
