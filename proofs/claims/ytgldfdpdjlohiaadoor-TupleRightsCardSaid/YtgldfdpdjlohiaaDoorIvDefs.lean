/- The ideal machine: a deterministic reading of a Go function's code over values that bear no addresses of what is only read; conditions: none. -/
import Derived.Calls
import Derived.Orders
import Derived.Below
namespace Go.Proofs.YtgldfdpdjlohiaaDoor.Iv
open Go

/-- A memory program that asks nothing of memory. -/
def pureRun {α : Type} (P : Program) : Sem α → Option α
  | .pure a => some a
  | .program k => pureRun P (k P)
  | .mark _ k => pureRun P k
  | _ => none

/-- Values whose memory never turns. -/
inductive PV where
  | v (x : Value)
  | agg (l : List PV)
  | tup (l : List PV)
  | ro (n : Nat) (l : List PV)
  | rop (l : List PV)
  deriving Inhabited

/-- Values of a running function. -/
inductive IV where
  | p (x : PV)
  | agg (l : List IV)
  | tup (l : List IV)
  | row (b sz n : Nat)
  | rw (b sz off n : Nat)
  | ptr (b off : Nat)
  | eptr (b off : Nat)
  | fn (f : Fn) (cap : List IV)
  | it (b : Nat)
  | undef
  deriving Inhabited

/-- Blocks of the function's own. -/
inductive Blk where
  | pc (l : List PV)
  | gc (l : List IV)
  | iter (s : ByteArray) (pos : Nat)
  | dead
  deriving Inhabited

abbrev Hp := List Blk
abbrev R := Option (IV × Hp)

def allV : List PV → Option (List Value)
  | [] => some []
  | .v x :: l => match allV l with | some r => some (x :: r) | none => none
  | _ :: _ => none

def allP : List IV → Option (List PV)
  | [] => some []
  | .p x :: l => match allP l with | some r => some (x :: r) | none => none
  | _ :: _ => none

def mkAggP (l : List PV) : PV := match allV l with | some r => .v (.agg ⟨r⟩) | none => .agg l
def mkTupP (l : List PV) : PV := match allV l with | some r => .v (.tuple ⟨r⟩) | none => .tup l
def mkAgg (l : List IV) : IV := match allP l with | some r => .p (mkAggP r) | none => .agg l
def mkTup (l : List IV) : IV := match allP l with | some r => .p (mkTupP r) | none => .tup l
def mkBlk (l : List IV) : Blk := match allP l with | some r => .pc r | none => .gc l

/-- The cells of a value. -/
def cellsP : PV → List PV
  | .v (.agg cs) => cs.toList.map .v
  | .agg l => l
  | x => [x]
def cellsI : IV → List IV
  | .p x => (cellsP x).map .p
  | .agg l => l
  | x => [x]
/-- The components of a tuple. -/
def compsP : PV → List PV
  | .v (.tuple vs) => vs.toList.map .v
  | .tup l => l
  | x => [x]

def blkCells : Blk → Option (List IV)
  | .pc l => some (l.map .p)
  | .gc l => some l
  | _ => none

/-- Cells from one on: as a variable of size n. -/
def sub {α : Type} (l : List α) (off n : Nat) : List α := (l.drop off).take n

/-- A store of cells into a list. -/
def over {α : Type} : List α → Nat → List α → List α
  | l, _, [] => l
  | l, off, x :: xs => over (l.set off x) (off + 1) xs

def setBlk (H : Hp) (b : Nat) (k : Blk) : Hp := H.set b k

/-- What reads the row b through any handle is forgotten. -/
def killL (k : IV → IV) : List IV → List IV
  | [] => []
  | x :: l => k x :: killL k l
def kill (b : Nat) : IV → IV
  | .row c sz n => if c = b then .undef else .row c sz n
  | .rw c sz off n => if c = b then .undef else .rw c sz off n
  | .eptr c off => if c = b then .undef else .eptr c off
  | .agg _ => .undef
  | .tup _ => .undef
  | x => x
/-- Behind a call in place no row's handle is known any more. -/
def dropU : IV → IV
  | .row _ _ _ => .undef
  | .rw _ _ _ _ => .undef
  | .eptr _ _ => .undef
  | .agg _ => .undef
  | .tup _ => .undef
  | x => x
def killB (b : Nat) : Blk → Blk
  | .gc l => .gc (killL (kill b) l)
  | k => k
def killH (b : Nat) : Hp → Hp
  | [] => []
  | x :: l => killB b x :: killH b l

/-- No handle of a block from n on. -/
def belowI (n : Nat) : IV → Bool
  | .p _ => true
  | .row b _ _ => b < n
  | .rw b _ _ _ => b < n
  | .ptr b _ => b < n
  | .eptr b _ => b < n
  | .it b => b < n
  | .undef => true
  | _ => false
def belowL (n : Nat) : List IV → Bool
  | [] => true
  | x :: l => belowI n x && belowL n l
def belowH (n : Nat) : Hp → Bool
  | [] => true
  | .gc l :: r => belowL n l && belowH n r
  | _ :: r => belowH n r
/-- Blocks that nobody knows any more are dropped. -/
def gcH (n : Nat) (t : List IV) (H : Hp) : Hp :=
  bif belowL n t && belowH n (H.take n) then H.take n else H

/-- What a loop keeps of the slots; and a frame out of it. -/
def keepT : List Bool → List IV → List IV
  | true :: m, x :: l => x :: keepT m l
  | false :: m, _ :: l => .undef :: keepT m l
  | _, _ => []
def undefs : Nat → List IV
  | 0 => []
  | n + 1 => .undef :: undefs n
def padT (n : Nat) (l : List IV) : List IV := l ++ undefs (n - l.length)

/-- A value whose memory turns no more, out of the function's own blocks. -/
def freezeL (fz : IV → Option PV) : List IV → Option (List PV)
  | [] => some []
  | x :: l => match fz x with
    | some y => match freezeL fz l with | some r => some (y :: r) | none => none
    | none => none
def freeze (H : Hp) : Nat → IV → Option PV
  | _, .p x => some x
  | k + 1, .agg l => match freezeL (freeze H k) l with | some r => some (mkAggP r) | none => none
  | k + 1, .tup l => match freezeL (freeze H k) l with | some r => some (mkTupP r) | none => none
  | k + 1, .row b _ n => match H[b]? with
    | some (.pc l) => some (.ro n l)
    | some (.gc l) => match freezeL (freeze H k) l with | some r => some (.ro n r) | none => none
    | _ => none
  | k + 1, .rw b sz off n => match H[b]? with
    | some (.pc l) => some (.ro n (sub l off (n * sz)))
    | some (.gc l) => match freezeL (freeze H k) (sub l off (n * sz)) with | some r => some (.ro n r) | none => none
    | _ => none
  | k + 1, .ptr b off => match H[b]? with
    | some (.pc l) => some (.rop (l.drop off))
    | some (.gc l) => match freezeL (freeze H k) (l.drop off) with | some r => some (.rop r) | none => none
    | _ => none
  | _, _ => none
/-- Values of one cell. -/
def oneV : Value → Bool
  | .agg _ => false
  | .tuple _ => false
  | _ => true
def oneI : IV → Bool
  | .p (.v x) => oneV x
  | .p (.agg _) => false
  | .p (.tup _) => false
  | .agg _ => false
  | .tup _ => false
  | .undef => false
  | _ => true
def oneL : List IV → Bool
  | [] => true
  | x :: l => oneI x && oneL l
/-- What a function value may bear. -/
def stabL : List IV → Bool
  | [] => true
  | .p _ :: l => stabL l
  | .ptr _ _ :: l => stabL l
  | _ :: _ => false
/-- An argument that is lent: read alone, while the call lasts. -/
def lend (H : Hp) : IV → Option PV := freeze H 3
def lendL (H : Hp) : List IV → Option (List PV) := freezeL (lend H)
/-- No slice and no pointer in it. -/
def flat : PV → Bool
  | .v _ => true
  | _ => false
def isP : IV → Bool
  | .p _ => true
  | _ => false

/-- The kinds of cells that a call hands back. -/
inductive CK where
  | int (k : IntKind)
  | bool
  | str
  | sl
  | any
  deriving DecidableEq, Inhabited
/-- What becomes of a call's results: one variable a cell. -/
def KTy : List CK → Type
  | [] => R
  | .int _ :: l => Int → KTy l
  | .bool :: l => Bool → KTy l
  | .str :: l => ByteArray → KTy l
  | .sl :: l => Nat → List PV → KTy l
  | .any :: l => PV → KTy l
def asI (k : IntKind) : PV → Option Int
  | .v (.int k' n) => if k' = k then some n else none
  | _ => none
def asB : PV → Option Bool
  | .v (.bool b) => some b
  | _ => none
def asS : PV → Option ByteArray
  | .v (.string s) => some s
  | _ => none
def asSl : PV → Option (Nat × List PV)
  | .ro n c => some (n, c)
  | .v (.slice none 0 0) => some (0, [])
  | _ => none
def elimT : (l : List CK) → List PV → KTy l → R
  | [], xs => fun K => match xs with | [] => K | _ :: _ => none
  | .int k :: l, xs => fun K => match xs with
    | [] => none
    | x :: r => match asI k x with | some n => elimT l r (K n) | none => none
  | .bool :: l, xs => fun K => match xs with
    | [] => none
    | x :: r => match asB x with | some n => elimT l r (K n) | none => none
  | .str :: l, xs => fun K => match xs with
    | [] => none
    | x :: r => match asS x with | some n => elimT l r (K n) | none => none
  | .sl :: l, xs => fun K => match xs with
    | [] => none
    | x :: r => match asSl x with | some (n, c) => elimT l r (K n c) | none => none
  | .any :: l, xs => fun K => match xs with
    | [] => none
    | x :: r => elimT l r (K x)
def curryK : (l : List CK) → (List PV → R) → KTy l
  | [], f => f []
  | .int k :: l, f => fun n => curryK l fun xs => f (.v (.int k n) :: xs)
  | .bool :: l, f => fun b => curryK l fun xs => f (.v (.bool b) :: xs)
  | .str :: l, f => fun s => curryK l fun xs => f (.v (.string s) :: xs)
  | .sl :: l, f => fun n c => curryK l fun xs => f (.ro n c :: xs)
  | .any :: l, f => fun x => curryK l fun xs => f (x :: xs)

/-- The cells' kinds of a type. -/
def ckF (ck : TypeId → List CK) : List Field → List CK
  | [] => []
  | f :: l => ck f.type ++ ckF ck l
def ckN (l : List CK) : Nat → List CK
  | 0 => []
  | n + 1 => l ++ ckN l n
def cks (P : Program) : Nat → TypeId → List CK
  | 0, _ => [.any]
  | d + 1, t => match P.underlying t with
    | some (.int k) => [.int k]
    | some .bool => [.bool]
    | some .string => [.str]
    | some (.slice _) => [.sl]
    | some (.struct fs) => ckF (cks P d) fs.toList
    | some (.array n e) => ckN (cks P d e) n
    | _ => [.any]
def isAggT (P : Program) (t : TypeId) : Bool := match P.underlying t with
  | some (.struct _) => true
  | some (.array _ _) => true
  | _ => false
/-- The components of a call's results. -/
def resCks (P : Program) : List TypeId → List CK
  | [] => []
  | t :: l => cks P 8 t ++ resCks P l
/-- The results' cells, all in one row; and back. -/
def isAggP : PV → Bool
  | .v (.agg _) => true
  | .agg _ => true
  | _ => false
def spread (P : Program) : List TypeId → List PV → Option (List PV)
  | [], [] => some []
  | t :: l, x :: xs => match isAggT P t with
    | true => if isAggP x = true ∧ (cellsP x).length = (cks P 8 t).length then match spread P l xs with
        | some r => some (cellsP x ++ r)
        | none => none
      else none
    | false => if (cks P 8 t).length = 1 then match spread P l xs with
        | some r => some (x :: r)
        | none => none
      else none
  | _, _ => none
def gather (P : Program) : List TypeId → List PV → List PV
  | [], _ => []
  | t :: l, xs => match isAggT P t with
    | true => mkAggP (xs.take (cks P 8 t).length) :: gather P l (xs.drop (cks P 8 t).length)
    | false => match xs with
      | x :: r => x :: gather P l r
      | [] => []
def isOne (ts : List TypeId) : Bool := match ts with
  | [_] => true
  | _ => false
def tupP : PV → Option (List PV)
  | .v (.tuple vs) => some (vs.toList.map .v)
  | .tup l => some l
  | _ => none
def resIn (ts : List TypeId) (p : PV) : Option (List PV) := match isOne ts with
  | true => some [p]
  | false => tupP p

/-- What the machine is of. -/
structure Env where
  P : Program
  /-- is a function read in place, over its caller's blocks? -/
  inl : FuncId → Bool
  /-- which slots a function's loops keep -/
  keep : FuncId → List Bool
  /-- functions that are told, not read -/
  intr : FuncId → Option (List PV → Option PV)
  /-- functions whose regions have been looked at -/
  ok : FuncId → Bool

abbrev KN := List IV → Hp → R
abbrev KX := Nat → List IV → Hp → R
abbrev CallP := FuncId → List PV → Option PV
abbrev CallK := FuncId → List IV → Hp → (IV → Hp → R) → R
/-- a function's number, its frame's size -/
structure Cx where
  f : FuncId
  nt : Nat
abbrev LoopF := Cx → Code → Nat → List IV → Hp → KN → KX → KN → R

def evI (t : List IV) : Operand → IV
  | .tmp i => t.getD i .undef
  | .const v => .p (.v v)
  | .global g => .p (.v (.pointer (some ⟨g, 0, none⟩)))
  | .func f => .p (.v (.func (.func f) #[] #[]))
def evL (t : List IV) : List Operand → List IV
  | [] => []
  | x :: l => evI t x :: evL t l
def plainR (t : List IV) (x : Operand) : Value := match evI t x with
  | .p (.v v) => v
  | _ => Go.undef
def plainL (t : List IV) : List Operand → Bool
  | [] => true
  | x :: l => (match evI t x with | .p (.v _) => true | _ => false) && plainL t l

def sizeT (P : Program) (t : TypeId) : Option Nat := (P.info? t).map (·.size)

def chk (b : Bool) (x : R) : R := bif b then x else none
/-- A variable of a type out of memory. -/
def loadK (P : Program) (t : TypeId) (l : List PV) (K : IV → R) : R :=
  if isAggT P t then match sizeT P t with
    | some n => if (cks P 8 t).length = n then elimT (cks P 8 t) (l.take n) (curryK (cks P 8 t) fun xs => K (.p (mkAggP xs))) else none
    | none => none
  else match P.underlying t with
    | some _ => elimT (cks P 8 t) (l.take 1) (curryK (cks P 8 t) fun xs => match xs with | [x] => K (.p x) | _ => none)
    | none => none
def loadG (P : Program) (t : TypeId) (l : List IV) (K : IV → R) : R :=
  if isAggT P t then match sizeT P t with
    | some n => if (l.take n).length = n then K (mkAgg (l.take n)) else none
    | none => none
  else match P.underlying t, l with
    | some _, x :: _ => K x
    | _, _ => none
/-- The offset of a struct's field, where the field has cells. -/
def fieldOff (P : Program) (s : TypeId) (f : Nat) : Option Nat := match P.underlying s with
  | some (.struct fs) => match fs[f]? with
    | some fd => match sizeT P fd.type with
      | some 0 => none
      | some _ => some fd.offset
      | none => none
    | none => none
  | _ => none
/-- The element type of a slice or an array. -/
def elemT (P : Program) (t : TypeId) : Option TypeId := match P.underlying t with
  | some (.slice e) => some e
  | some (.array _ e) => some e
  | _ => none
def elemSz (P : Program) (t : TypeId) : Option Nat := match elemT P t with
  | some e => match sizeT P e with
    | some 0 => none
    | r => r
  | none => none
def isSliceT (P : Program) (t : TypeId) : Bool := match P.underlying t with | some (.slice _) => true | _ => false
def isU8 (P : Program) (t : TypeId) : Bool := match elemT P t with
  | some e => match P.underlying e with | some (.int .u8) => true | _ => false
  | none => false
def isStrT (P : Program) (t : TypeId) : Bool := match P.underlying t with | some .string => true | _ => false
def zeroT (P : Program) (t : TypeId) : Option Value := match P.info? t with | some i => i.zero | none => none
def bytesT (P : Program) (t : TypeId) : Nat := match P.info? t with | some i => i.bytes | none => 2 ^ 60
def strEq (x y : ByteArray) : Bool := x.data.toList == y.data.toList
def bt (s : ByteArray) (i : Int) : Int := (s.data.toList.getD i.toNat 0).toNat

/-- '+ - * ..' of whole numbers. -/
def binI (op : BinOp) (k : IntKind) (a b : Int) (K : Value → R) : R := match op with
  | .add => K (.int k (k.wrap (a + b)))
  | .sub => K (.int k (k.wrap (a - b)))
  | .mul => K (.int k (k.wrap (a * b)))
  | .quo => chk (b != 0) (K (.int k (k.wrap (a.tdiv b))))
  | .rem => chk (b != 0) (K (.int k (a.tmod b)))
  | .and => K (.int k (k.wrap (BitVec.ofInt k.bits a &&& BitVec.ofInt k.bits b).toNat))
  | .or => K (.int k (k.wrap (BitVec.ofInt k.bits a ||| BitVec.ofInt k.bits b).toNat))
  | .xor => K (.int k (k.wrap (BitVec.ofInt k.bits a ^^^ BitVec.ofInt k.bits b).toNat))
  | .andNot => K (.int k (k.wrap (BitVec.ofInt k.bits a &&& ~~~(BitVec.ofInt k.bits b)).toNat))
  | .eql => K (.bool (a == b))
  | .neq => K (.bool (a != b))
  | .lss => K (.bool (decide (a < b)))
  | .leq => K (.bool (decide (a ≤ b)))
  | .gtr => K (.bool (decide (a > b)))
  | .geq => K (.bool (decide (a ≥ b)))
  | _ => none
def shI (op : BinOp) (k : IntKind) (a b : Int) (K : Value → R) : R := match op with
  | .shl => chk (decide (0 ≤ b)) (K (.int k (k.wrap (a * 2 ^ min b.toNat k.bits))))
  | .shr => chk (decide (0 ≤ b)) (K (.int k (a.fdiv (2 ^ min b.toNat k.bits))))
  | _ => none
def isSh : BinOp → Bool
  | .shl => true
  | .shr => true
  | _ => false
/-- Types whose values are the same if their cells are: the cells' kinds. -/
def eksF (P : Program) (ek : TypeId → Option (List CK)) : Nat → List Field → Option (List CK)
  | _, [] => some []
  | off, f :: l => if f.name != "_" && f.offset == off then
      match ek f.type, sizeT P f.type with
      | some ks, some n => if ks.length = n then match eksF P ek (off + n) l with
          | some r => some (ks ++ r)
          | none => none
        else none
      | _, _ => none
    else none
def eks (P : Program) : Nat → TypeId → Option (List CK)
  | 0, _ => none
  | d + 1, t => match P.underlying t with
    | some .bool => some [.bool]
    | some (.int k) => some [.int k]
    | some .string => some [.str]
    | some (.struct fs) => if P.stoodInHeld t then none else eksF P (eks P d) 0 fs.toList
    | _ => none
/-- The same cells? -/
def eq1 : CK → Value → Value → Option Bool
  | .int k, .int k1 a, .int k2 b => if k1 = k ∧ k2 = k then some (a == b) else none
  | .bool, .bool a, .bool b => some (a == b)
  | .str, .string a, .string b => some (strEq a b)
  | _, _, _ => none
def eqC : List CK → List Value → List Value → Option Bool
  | [], [], [] => some true
  | k :: ks, x :: xs, y :: ys => match eq1 k x y, eqC ks xs ys with
    | some a, some b => some (a && b)
    | _, _ => none
  | _, _, _ => none
def isStructT (P : Program) (t : TypeId) : Bool := match P.underlying t with | some (.struct _) => true | _ => false
def binK (P : Program) (op : BinOp) (t : TypeId) (x y : Value) (K : Value → R) : R := match x, y with
  | .int k a, .int k' b => if isSh op then shI op k a b K else if k = k' then binI op k a b K else none
  | .string a, .string b => match op with
    | .add => chk (decide (a.size + b.size < 2 ^ 62)) (K (.string (a ++ b)))
    | .eql => K (.bool (strEq a b))
    | .neq => K (.bool !(strEq a b))
    | _ => none
  | .bool a, .bool b => match op, P.underlying t with
    | .eql, some .bool => K (.bool (a == b))
    | .neq, some .bool => K (.bool !(a == b))
    | _, _ => none
  | .agg a, .agg b => match isStructT P t, eks P 8 t with
    | true, some ks => match op, eqC ks a.toList b.toList with
      | .eql, some r => K (.bool r)
      | .neq, some r => K (.bool !r)
      | _, _ => none
    | _, _ => none
  | _, _ => none

/-- Parts laid over a value's cells. -/
def fillI (place : Nat → Option (Nat × Nat)) : List (Nat × IV) → List IV → Option (List IV)
  | [], l => some l
  | (i, x) :: r, l => match place i with
    | some (off, n) => if (cellsI x).length = n ∧ off + n ≤ l.length then fillI place r (over l off (cellsI x)) else none
    | none => none
def evParts (t : List IV) : List (Nat × Operand) → List (Nat × IV)
  | [] => []
  | (i, x) :: l => (i, evI t x) :: evParts t l
def noUndef : List (Nat × IV) → Bool
  | [] => true
  | (_, .undef) :: _ => false
  | _ :: l => noUndef l
def repL {α : Type} (l : List α) : Nat → List α
  | 0 => []
  | n + 1 => l ++ repL l n
def placesL (P : Program) : List Field → Option (List (Nat × Nat))
  | [] => some []
  | f :: l => match sizeT P f.type, placesL P l with
    | some n, some r => some ((f.offset, n) :: r)
    | _, _ => none
def buildI (P : Program) (t : TypeId) (ps : List (Nat × IV)) : Option (List IV) :=
  match zeroT P t with
  | some z => match P.underlying t with
    | some (.struct fs) => match placesL P fs.toList with
      | some pl => fillI (fun i => pl[i]?) ps (cellsI (.p (.v z)))
      | none => none
    | some (.array _ e) => match sizeT P e with
      | some n => fillI (fun i => some (i * n, n)) ps (cellsI (.p (.v z)))
      | none => none
    | _ => none
  | none => none
def buildS (P : Program) (t : TypeId) (len : Nat) (ps : List (Nat × IV)) : Option (Nat × List IV) :=
  match elemT P t, elemSz P t with
  | some e, some n => if len * n ≤ 2 ^ 24 then match zeroT P e with
      | some z => if z.cells.size = n then match fillI (fun i => some (i * n, n)) ps (repL (cellsI (.p (.v z))) len) with
        | some l => some (n, l)
        | none => none
        else none
      | none => none
    else none
  | _, _ => none

/-- A row's bytes. -/
def byteOf? : PV → Option UInt8
  | .v (.int .u8 n) => some (UInt8.ofNat n.toNat)
  | _ => none
def bytesP : List PV → Option (List UInt8)
  | [] => some []
  | x :: l => match byteOf? x with
    | some b => match bytesP l with | some r => some (b :: r) | none => none
    | none => none
def encB (l : List UInt8) : List PV := l.map fun b => .v (.int .u8 (b.toNat : Int))
/-- A slice's elements, as they stand. -/
def rowCells (H : Hp) : IV → Option (Nat × List PV)
  | .p (.ro n l) => some (n, l)
  | .p (.v (.slice none 0 0)) => some (0, [])
  | .row b _ n => match H[b]? with | some (.pc l) => some (n, l) | _ => none
  | .rw b sz off n => match H[b]? with | some (.pc l) => some (n, sub l off (n * sz)) | _ => none
  | _ => none
def lenI : IV → Option Int
  | .p (.ro n _) => some n
  | .p (.v (.slice _ n _)) => some n
  | .row _ _ n => some n
  | .rw _ _ _ n => some n
  | _ => none
def optBound (t : List IV) (x : Option Operand) (d : Int) : Option Int := match x with
  | none => some d
  | some o => match evI t o with
    | .p (.v (.int _ n)) => some n
    | _ => none


/-- A new block. -/
def newK (H : Hp) (l : List IV) (K : IV → Option Nat → Hp → R) : R := chk (oneL l) (K (.ptr H.length 0) none (H ++ [mkBlk l]))
def storeI (H : Hp) (b off : Nat) (l : List IV) : Option Hp := match H[b]? with
  | some (.pc c) => if off + l.length ≤ c.length then match allP l with
      | some ps => some (H.set b (.pc (over c off ps)))
      | none => some (H.set b (.gc (over (c.map .p) off l)))
    else none
  | some (.gc c) => if off + l.length ≤ c.length then some (H.set b (.gc (over c off l))) else none
  | _ => none
def loadB (P : Program) (H : Hp) (ty : TypeId) (b off : Nat) (K : IV → R) : R := match H[b]? with
  | some (.pc l) => loadK P ty (l.drop off) K
  | some (.gc l) => loadG P ty (l.drop off) K
  | _ => none
def storeK (H : Hp) (n b off : Nat) (y : IV) (K : Hp → R) : R :=
  if (cellsI y).length = n then chk (oneL (cellsI y)) (match storeI H b off (cellsI y) with
    | some H' => K H'
    | none => none) else none
def appendB (k : Blk) (l : List IV) : Option Blk := match k with
  | .pc c => match allP l with
    | some ps => some (.pc (c ++ ps))
    | none => some (.gc (c.map .p ++ l))
  | .gc c => some (.gc (c ++ l))
  | _ => none
/-- What an append takes: as cells; and whether they are as many as they must be. -/
def srcCells (H : Hp) (sz : Nat) (x : IV) : Option (Nat × List IV × Bool) := match x with
  | .p (.v (.string s)) => some (s.size, (encB s.data.toList).map .p, sz == 1)
  | .row b sz' n => match H[b]? with | some (.gc l) => some (n, l, sz' == sz) | some (.pc l) => some (n, l.map .p, sz' == sz) | _ => none
  | x => match rowCells H x with | some (n, l) => some (n, l.map .p, decide (l.length = n * sz)) | none => none
def allOneV : List Value → Bool
  | [] => true
  | x :: l => oneV x && allOneV l
def zeroOK (P : Program) (e : TypeId) (sz : Nat) : Bool := match zeroT P e with
  | some z => z.cells.size == sz && allOneV z.cells.toList
  | none => false
def appendK (P : Program) (H : Hp) (ty : TypeId) (d x : IV) (K : IV → Option Nat → Hp → R) : R :=
  match elemT P ty, elemSz P ty with
  | some e, some sz => match srcCells H sz x with
    | some (m, l, ok) => chk (zeroOK P e sz && ok) (match d with
      | .p (.v (.slice none 0 0)) => chk (decide (m * (bytesT P e + 1) < 2 ^ 46)) (bif m == 0 then K (.p (.v (.slice none 0 0))) none H else K (.row H.length sz m) none (H ++ [mkBlk l]))
      | .row b sz' n => if sz' = sz then match H[b]? with
          | some k => match appendB k l with
            | some k' => chk (decide ((n + m) * (bytesT P e + 1) < 2 ^ 46)) (K (.row b sz (n + m)) (some b) (H.set b k'))
            | none => none
          | none => none
        else none
      | _ => none)
    | none => none
  | _, _ => none

/-- The known cells of a block. -/
def blkLen (H : Hp) (b : Nat) : Nat := match H[b]? with
  | some (.pc l) => l.length
  | some (.gc l) => l.length
  | _ => 0
def arrLen (P : Program) (t : TypeId) : Option Nat := match P.underlying t with
  | some (.array n _) => some n
  | _ => none
def sliceK (P : Program) (H : Hp) (ty : TypeId) (x : IV) (lo hi : Option Operand) (t : List IV) (K : IV → R) : R :=
  match x with
  | .p (.v (.string s)) => if isStrT P ty then match optBound t lo 0, optBound t hi s.size with
      | some a, some b => chk (decide (0 ≤ b) && decide (b ≤ s.size) && decide (0 ≤ a) && decide (a ≤ b)) (K (.p (.v (.string (s.extract a.toNat b.toNat)))))
      | _, _ => none
    else none
  | .p (.ro n l) => match isSliceT P ty, elemSz P ty, optBound t lo 0, optBound t hi n with
      | true, some sz, some a, some b => chk (decide (0 ≤ b) && decide (b ≤ n) && decide (0 ≤ a) && decide (a ≤ b))
          (K (.p (.ro (b.toNat - a.toNat) (sub l (a.toNat * sz) ((b.toNat - a.toNat) * sz)))))
      | _, _, _, _ => none
  | .row c sz' n => match isSliceT P ty, elemSz P ty, optBound t lo 0, optBound t hi n with
      | true, some sz, some a, some b => if sz = sz' then chk (decide (0 ≤ b) && decide (b ≤ n) && decide (0 ≤ a) && decide (a ≤ b))
          (K (.rw c sz (a.toNat * sz) (b.toNat - a.toNat))) else none
      | _, _, _, _ => none
  | .rw c sz' off n => match isSliceT P ty, elemSz P ty, optBound t lo 0, optBound t hi n with
      | true, some sz, some a, some b => if sz = sz' then chk (decide (0 ≤ b) && decide (b ≤ n) && decide (0 ≤ a) && decide (a ≤ b))
          (K (.rw c sz (off + a.toNat * sz) (b.toNat - a.toNat))) else none
      | _, _, _, _ => none
  | .ptr c off => match arrLen P ty, elemSz P ty with
      | some n, some sz => match optBound t lo 0, optBound t hi n with
        | some a, some b => chk (decide (0 ≤ b) && decide (b ≤ n) && decide (0 ≤ a) && decide (a ≤ b) && decide (off + n * sz ≤ blkLen H c))
          (K (.rw c sz (off + a.toNat * sz) (b.toNat - a.toNat)))
        | _, _ => none
      | _, _ => none
  | _ => none

def indexAddrK (P : Program) (ty : TypeId) (x i : IV) (K : IV → R) : R :=
  match i, elemSz P ty with
  | .p (.v (.int _ j)), some sz => match x with
    | .p (.ro n l) => if isSliceT P ty then chk (decide (0 ≤ j) && decide (j < n)) (K (.p (.rop (l.drop (j.toNat * sz))))) else none
    | .row b sz' n => if isSliceT P ty ∧ sz = sz' then chk (decide (0 ≤ j) && decide (j < n)) (K (.eptr b (j.toNat * sz))) else none
    | .rw b sz' off n => if isSliceT P ty ∧ sz = sz' then chk (decide (0 ≤ j) && decide (j < n)) (K (.eptr b (off + j.toNat * sz))) else none
    | .ptr b off => match P.underlying ty with
      | some (.array len _) => chk (decide (0 ≤ j) && decide (j < len)) (K (.ptr b (off + j.toNat * sz)))
      | _ => none
    | .eptr b off => match P.underlying ty with
      | some (.array len _) => chk (decide (0 ≤ j) && decide (j < len)) (K (.eptr b (off + j.toNat * sz)))
      | _ => none
    | _ => none
  | _, _ => none

def convertK (P : Program) (H : Hp) (src dst : TypeId) (x : IV) (K : IV → Option Nat → Hp → R) : R :=
  match x with
  | .p (.v (.int _ n)) => match P.underlying src, P.underlying dst with
    | some _, some (.int k) => K (.p (.v (.int k (k.wrap n)))) none H
    | some _, some .string => K (.p (.v (.string (Utf8.encode n)))) none H
    | _, _ => none
  | .p (.v (.string s)) => match P.underlying src with
    | some .string => if isStrT P dst then K x none H
      else if isSliceT P dst ∧ isU8 P dst then K (.row H.length 1 s.size) none (H ++ [.pc (encB s.data.toList)]) else none
    | _ => none
  | x => if isSliceT P src ∧ isU8 P src ∧ isStrT P dst then match rowCells H x with
      | some (n, l) => if l.length = n then match bytesP l with | some r => K (.p (.v (.string ⟨⟨r⟩⟩))) none H | none => none else none
      | none => none
    else none

/-- One operation; a call of Go code apart. -/
def opK (P : Program) (t : List IV) (H : Hp) (o : Oper) (K : IV → Option Nat → Hp → R) : R :=
  match o.op with
  | .move x => K (evI t x) none H
  | .assign x => K (evI t x) none H
  | .pick c a b => match evI t c with
    | .p (.v (.bool true)) => K (evI t a) none H
    | .p (.v (.bool false)) => K (evI t b) none H
    | _ => none
  | .alloc e => match zeroT P e with
    | some z => newK H (cellsI (.p (.v z))) K
    | none => none
  | .box _ x => match evI t x with
    | .undef => none
    | y => newK H (cellsI y) K
  | .build ty ps => if noUndef (evParts t ps.toList) then match buildI P ty (evParts t ps.toList) with
      | some l => K (mkAgg l) none H
      | none => none
    else none
  | .buildSlice ty n ps => if noUndef (evParts t ps.toList) then match buildS P ty n (evParts t ps.toList) with
      | some (sz, l) => chk (isSliceT P ty && oneL l) (K (.row H.length sz n) none (H ++ [mkBlk l]))
      | none => none
    else none
  | .load ty a => match evI t a with
    | .p (.rop l) => loadK P ty l fun y => K y none H
    | .ptr b off => loadB P H ty b off fun y => K y none H
    | .eptr b off => loadB P H ty b off fun y => K y none H
    | _ => none
  | .store ty a x => match evI t a, sizeT P ty with
    | .ptr b off, some n => storeK H n b off (evI t x) fun H' => K (.p (.v Go.undef)) none H'
    | .eptr b off, some n => storeK H n b off (evI t x) fun H' => K (.p (.v Go.undef)) none H'
    | _, _ => none
  | .nilCheck x => match evI t x with
    | .ptr b off => K (.ptr b off) none H
    | .eptr b off => K (.eptr b off) none H
    | .p (.rop l) => K (.p (.rop l)) none H
    | _ => none
  | .makeFunc f first cap => bif (first.toList.isEmpty && stabL (evL t cap.toList)) then K (.fn f (evL t cap.toList)) none H else none
  | .binOp op ty x y _ => match evI t x, evI t y with
    | .p (.v a), .p (.v b) => binK P op ty a b fun r => K (.p (.v r)) none H
    | _, _ => none
  | .unOp op _ x => match op, evI t x with
    | .not, .p (.v (.bool b)) => K (.p (.v (.bool !b))) none H
    | .neg, .p (.v (.int k n)) => K (.p (.v (.int k (k.wrap (0 - n))))) none H
    | .xor, .p (.v (.int k n)) => binI .xor k (if k.signed then -1 else k.max) n fun r => K (.p (.v r)) none H
    | _, _ => none
  | .convert src dst x => convertK P H src dst (evI t x) K
  | .slice ty x lo hi none => sliceK P H ty (evI t x) lo hi t fun y => K y none H
  | .fieldAddr s x f => match evI t x, fieldOff P s f with
    | .ptr b off, some d => K (.ptr b (off + d)) none H
    | .eptr b off, some d => K (.eptr b (off + d)) none H
    | .p (.rop l), some d => K (.p (.rop (l.drop d))) none H
    | _, _ => none
  | .field s x f => match evI t x, fieldOff P s f, P.underlying s with
    | .p y, some d, some (.struct fs) => match fs[f]? with
      | some fd => if isAggP y then loadK P fd.type ((cellsP y).drop d) fun y => K y none H else none
      | none => none
    | _, _, _ => none
  | .indexAddr ty x i => indexAddrK P ty (evI t x) (evI t i) fun y => K y none H
  | .index ty x i => match evI t x, evI t i with
    | .p (.v (.string s)), .p (.v (.int _ j)) => if isStrT P ty then chk (decide (0 ≤ j) && decide (j < s.size)) (K (.p (.v (.int .u8 (bt s j)))) none H) else none
    | _, _ => none
  | .range ty x => match evI t x with
    | .p (.v (.string s)) => if isStrT P ty then K (.it H.length) none (H ++ [.iter s 0]) else none
    | _ => none
  | .next it true => match evI t it with
    | .it b => match H[b]? with
      | some (.iter s pos) => bif decide (pos < s.size)
          then K (.p (.v (.tuple #[.bool true, .int .i64 pos, .int .i32 (Utf8.decode s pos).1]))) none (H.set b (.iter s (pos + (Utf8.decode s pos).2)))
          else K (.p (.v (.tuple #[.bool false]))) none H
      | _ => none
    | _ => none
  | .extract x i => match evI t x with
    | .p y => match y with
      | .v (.tuple vs) => match vs.toList[i]? with | some z => K (.p (.v z)) none H | none => none
      | .tup l => match l[i]? with | some z => K (.p z) none H | none => none
      | _ => none
    | .tup l => match l[i]? with | some z => K z none H | none => none
    | _ => none
  | .call { callee := .builtin .len, args, argTypes } => match args.toList, argTypes.toList with
    | [x], [ty] => if isStrT P ty then match evI t x with
        | .p (.v (.string s)) => K (.p (.v (.int .i64 s.size))) none H
        | _ => none
      else if isSliceT P ty then match lenI (evI t x) with
        | some n => K (.p (.v (.int .i64 n))) none H
        | none => none
      else none
    | _, _ => none
  | .call { callee := .builtin .append, args, argTypes } => match args.toList, argTypes.toList with
    | [d, x], [ty, ty2] => if isSliceT P ty then match evI t x with
        | .p (.v (.string s)) => if isStrT P ty2 then appendK P H ty (evI t d) (.p (.v (.string s))) K else none
        | y => if isSliceT P ty2 then appendK P H ty (evI t d) y K else none
      else none
    | _, _ => none
  | .call { callee := .builtin .min, args, .. } => match args.toList with
    | [x, y] => match evI t x, evI t y with
      | .p (.v (.int k a)), .p (.v (.int _ b)) => K (.p (.v (.int k (if b < a then b else a)))) none H
      | _, _ => none
    | _ => none
  | .call { callee := .builtin .max, args, .. } => match args.toList with
    | [x, y] => match evI t x, evI t y with
      | .p (.v (.int k a)), .p (.v (.int _ b)) => K (.p (.v (.int k (if a < b then b else a)))) none H
      | _, _ => none
    | _ => none
  | _ => none

/-- What a call asks. -/
def calleeOf (t : List IV) (c : Call) : Option (FuncId × List IV) := match c.callee with
  | .value f => match evI t f with
    | .p (.v (.func (.func f) first cap)) => some (f, first.toList.map (fun x => .p (.v x)) ++ evL t c.args.toList ++ cap.toList.map (fun x => .p (.v x)))
    | .fn (.func f) cap => some (f, evL t c.args.toList ++ cap)
    | _ => none
  | _ => none
def flatK : List CK → Bool
  | [] => true
  | .sl :: _ => false
  | .any :: _ => false
  | _ :: l => flatK l
def allIsP : List IV → Bool
  | [] => true
  | x :: l => isP x && allIsP l
def outI (l : List IV) : IV := match l with
  | [x] => x
  | l => mkTup l
def okCall (P : Program) (f : FuncId) : Option Func := match P.funcs[f]? with
  | some fn => if fn.body.isSome && fn.name != "runtime.NumGoroutine" then some fn else none
  | none => none
/-- A call by values alone: one variable a cell of the answer. -/
def callT (P : Program) (cp : CallP) (f : FuncId) (args : List PV) (lent : Bool) (ts : List TypeId) (cs : List CK) (K : KTy cs) : R :=
  if lent && !flatK cs then none else match cp f args with
    | some p => match resIn ts p with
      | some xs => match spread P ts xs with
        | some ys => elimT cs ys K
        | none => none
      | none => none
    | none => none
def callI (E : Env) (cp : CallP) (inl : CallK) (f : FuncId) (args : List IV) (H : Hp) (K : Bool → IV → Hp → R) : R :=
  match okCall E.P f with
  | some fn => match E.inl f with
    | false => match lendL H args with
      | some ps => callT E.P cp f ps (!allIsP args) fn.resultTypes.toList (resCks E.P fn.resultTypes.toList)
          (curryK (resCks E.P fn.resultTypes.toList) fun xs => K false (outI ((gather E.P fn.resultTypes.toList xs).map .p)) H)
      | none => none
    | true => inl f args H fun r H' => K true r H'
  | none => none
def putI (t : List IV) (dst : Option Tmp) (x : IV) : List IV := match dst with
  | some d => t.set d x
  | none => t
def killT (kl : Option Nat) (t : List IV) : List IV := match kl with
  | some b => killL (kill b) t
  | none => t
def killHp (kl : Option Nat) (H : Hp) : Hp := match kl with
  | some b => killH b H
  | none => H
def isCallV : Op → Bool
  | .call { callee := .value _, .. } => true
  | _ => false
/-- One operation that is to be carried out. -/
def stepK (E : Env) (cp : CallP) (inl : CallK) (t : List IV) (H : Hp) (o : Oper) (K : KN) : R :=
  match o.op with
  | .call { callee := .value g, args, argTypes } => match calleeOf t { callee := .value g, args, argTypes } with
    | some (f, xs) => callI E cp inl f xs H fun d r H' => K (putI (bif d then killL dropU t else t) o.dst r) H'
    | none => none
  | _ => opK E.P t H o fun r kl H' => K (putI (killT kl t) o.dst r) (killHp kl H')
def dstOf (ops : List Oper) (j : Nat) : Option Tmp := match ops[j]? with
  | some o => o.dst
  | none => none
/-- A region's operations, in the text's order. -/
def opsK (E : Env) (cp : CallP) (inl : CallK) (ops : List Oper) : List Oper → List IV → Hp → KN → R
  | [], t, H, K => K t H
  | o :: r, t, H, K => match o.guard with
    | none => stepK E cp inl t H o fun t H => opsK E cp inl ops r t H K
    | some (j, want) => match dstOf ops j with
      | some d => match t.getD d .undef with
        | .p (.v (.bool b)) => match want with
          | true => bif b then stepK E cp inl (t.set d (.p (.v (.bool true)))) H o fun t H => opsK E cp inl ops r t H K
              else opsK E cp inl ops r (putI (t.set d (.p (.v (.bool false)))) o.dst (.p (.v Go.undef))) H K
          | false => bif b then opsK E cp inl ops r (putI (t.set d (.p (.v (.bool true)))) o.dst (.p (.v Go.undef))) H K
              else stepK E cp inl (t.set d (.p (.v (.bool false)))) H o fun t H => opsK E cp inl ops r t H K
        | .p (.v (.tuple ⟨[]⟩)) => opsK E cp inl ops r (putI t o.dst (.p (.v Go.undef))) H K
        | _ => none
      | none => none
/-- A region that draws its order: what may come up in either order is quiet and apart. -/
def precE (r : Nat → Bool) (i : Nat) : List Edge → Bool
  | [] => false
  | e :: l => (Region.binds .any e && (e.on == i || r e.on)) || precE r i l
def precB (ops : List Oper) (i : Nat) : Nat → Nat → Bool
  | 0, _ => false
  | n + 1, j => match ops[j]? with
    | some o => precE (precB ops i n) i o.after.toList
    | none => false
def isQuiet (E : Env) (o : Oper) : Bool := match o.op with
  | .move _ => true
  | .assign _ => true
  | .pick _ _ _ => true
  | .build _ _ => true
  | .load _ _ => true
  | .nilCheck _ => true
  | .binOp _ _ _ _ _ => true
  | .unOp _ _ _ => true
  | .convert _ d _ => !isSliceT E.P d
  | .makeFunc _ _ _ => true
  | .slice _ _ _ _ _ => true
  | .fieldAddr _ _ _ => true
  | .field _ _ _ => true
  | .indexAddr _ _ _ => true
  | .index _ _ _ => true
  | .extract _ _ => true
  | .call { callee := .builtin .len, .. } => true
  | .call { callee := .builtin .min, .. } => true
  | .call { callee := .builtin .max, .. } => true
  | .call { callee := .value (.func f), .. } => !E.inl f
  | _ => false
/-- What makes a block and asks nothing else of the blocks. -/
def isAlloc (o : Oper) : Bool := match o.op with
  | .alloc _ => true
  | .box _ _ => true
  | .buildSlice _ _ _ => true
  | _ => false
/-- What asks nothing of the blocks. -/
def isFree (o : Oper) : Bool := match o.op with
  | .move _ => true
  | .assign _ => true
  | .pick _ _ _ => true
  | .nilCheck _ => true
  | .binOp _ _ _ _ _ => true
  | .unOp _ _ _ => true
  | .fieldAddr _ _ _ => true
  | .indexAddr _ _ _ => true
  | .index _ _ _ => true
  | .extract _ _ => true
  | _ => false
def pairOK (E : Env) (oi oj : Oper) : Bool := (isQuiet E oi && isQuiet E oj) || (isFree oi && isAlloc oj) || (isAlloc oi && isFree oj)
def regJ (E : Env) (ops : List Oper) (n : Nat) (j : Nat) (oj : Oper) : Nat → List Oper → Bool
  | _, [] => true
  | i, oi :: l => (if i < j then precB ops i n j || (pairOK E oi oj && oi.apart ops.toArray oj) else true) && regJ E ops n j oj (i + 1) l
def edgesOK (j : Nat) : List Edge → Bool
  | [] => true
  | e :: l => (!Region.binds .any e || decide (e.on < j)) && edgesOK j l
def regA (E : Env) (ops : List Oper) (n : Nat) : Nat → List Oper → Bool
  | _, [] => true
  | j, oj :: l => edgesOK j oj.after.toList && regJ E ops n j oj 0 ops && regA E ops n (j + 1) l
def regOK (E : Env) (ops : Array Oper) : Bool := regA E ops.toList ops.toList.length 0 ops.toList
def codeOK (E : Env) : Code → Bool
  | .region _ ops draw => !draw || regOK E ops
  | .seq a b => codeOK E a && codeOK E b
  | .cond _ a b => codeOK E a && codeOK E b
  | .block _ a => codeOK E a
  | .loop a => codeOK E a
  | _ => true
/-- A slot whose bool is known by now. -/
def knowB (t : List IV) (x : Operand) (b : Bool) : List IV := match x with
  | .tmp d => t.set d (.p (.v (.bool b)))
  | _ => t
/-- A piece of code, and what follows. -/
def exec (E : Env) (cp : CallP) (inl : CallK) (lp : LoopF) (cx : Cx) : Code → List IV → Hp → KN → KX → KN → R
  | .skip, t, H, kn, _, _ => kn t H
  | .label _, t, H, kn, _, _ => kn t H
  | .region _ ops _, t, H, kn, _, _ => opsK E cp inl ops.toList ops.toList t H kn
  | .seq a b, t, H, kn, kx, kr => exec E cp inl lp cx a t H (fun t H => exec E cp inl lp cx b t H kn kx kr) kx kr
  | .cond c a b, t, H, kn, kx, kr => match evI t c with
    | .p (.v (.bool v)) => bif v then exec E cp inl lp cx a (knowB t c true) H kn kx kr else exec E cp inl lp cx b (knowB t c false) H kn kx kr
    | _ => none
  | .block id a, t, H, kn, kx, kr => exec E cp inl lp cx a t H kn (fun j t H => if j = id then kn t H else kx j t H) kr
  | .loop a, t, H, kn, kx, kr => lp cx a H.length (keepT (E.keep cx.f) t) H kn kx kr
  | .exit id, t, H, _, kx, _ => kx id t H
  | .ret, t, H, _, _, kr => kr t H
  | _, _, _, _, _, _ => none

/-- A function's results. -/
def resK (P : Program) (t : List IV) (H : Hp) : List ResultVar → (List IV → R) → R
  | [], K => K []
  | .tmp i :: l, K => resK P t H l fun r => K (evI t (.tmp i) :: r)
  | .cell a ty :: l, K => match evI t (.tmp a) with
    | .ptr b off => loadB P H ty b off fun y => resK P t H l fun r => K (y :: r)
    | _ => none
def endK (P : Program) (fn : Func) (K : IV → Hp → R) : KN := fun t H => resK P t H fn.results.toList fun l => K (outI l) H

/-- The machine at so many rounds. -/
structure Mach where
  call : FuncId → List IV → Hp → R
  inl : CallK
  loop : LoopF
/-- A call by its values alone. -/
def cpOf (E : Env) (call : FuncId → List IV → Hp → R) : CallP := fun f args => match E.intr f with
  | some g => g args
  | none => match call f (args.map .p) [] with
    | some (r, H) => freeze H 3 r
    | none => none
def bodyI (E : Env) (m : Mach) (f : FuncId) (args : List IV) (H : Hp) (K : IV → Hp → R) : R :=
  match okCall E.P f with
  | some fn => match fn.body with
    | some c => if args.length ≤ fn.ntmps ∧ E.ok f = true then
        exec E (cpOf E m.call) m.inl m.loop ⟨f, fn.ntmps⟩ c (padT fn.ntmps args) H (endK E.P fn K) (fun _ _ _ => none) (endK E.P fn K)
      else none
    | none => none
  | none => none
def mach (E : Env) : Nat → Mach
  | 0 => ⟨fun _ _ _ => none, fun _ _ _ _ => none, fun _ _ _ _ _ _ _ _ => none⟩
  | k + 1 => ⟨fun f args H => bodyI E (mach E k) f args H fun r H => some (r, H),
    fun f args H K => bodyI E (mach E k) f args H K,
    fun cx a n t H kn kx kr => exec E (cpOf E (mach E k).call) (mach E k).inl (mach E k).loop cx a (padT cx.nt t) H
      (fun t H => (mach E k).loop cx a n (keepT (E.keep cx.f) t) (gcH n (keepT (E.keep cx.f) t) H) kn kx kr) kx kr⟩
abbrev callN (E : Env) (k : Nat) : FuncId → List IV → Hp → R := (mach E k).call
abbrev callP (E : Env) (k : Nat) : CallP := cpOf E (mach E k).call
end Go.Proofs.YtgldfdpdjlohiaaDoor.Iv
