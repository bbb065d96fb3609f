/- The ideal machine: a deterministic reading of a Go function's code over values that bear no addresses of what is only read; conditions: none. -/
import Derived.Calls
import Derived.Orders
import Derived.Below
namespace Go.Proofs.YtfaofikhabccoaaGreatDoor.Jv
open Go
set_option linter.unusedVariables false
set_option linter.unusedSimpArgs false

/-! ### Typed data -/
inductive Ty where
  | int (k : IntKind)
  | u8
  | bool
  | str
  | err
  | sl (t : Ty)
  | pair (a b : Ty)
  /-- a pointer to such a thing, or none -/
  | opt (t : Ty)
  deriving DecidableEq, Inhabited
@[reducible] def T : Ty → Type
  | .int _ => Int
  | .u8 => UInt8
  | .bool => Bool
  | .str => List UInt8
  | .err => Bool
  | .sl t => List (T t)
  | .pair a b => T a × T b
  | .opt t => Option (T t)
def sizeTy : Ty → Nat
  | .pair a b => sizeTy a + sizeTy b
  | _ => 1

/-- Values whose memory never turns. -/
inductive PV where
  | v (x : Value)
  | agg (l : List PV)
  | tup (l : List PV)
  | sl (t : Ty) (l : List (T t))
  | rop (l : List PV)
  /-- an error: is it none? -/
  | err (b : Bool)
  /-- a pointer to what never turns, or none -/
  | opt (t : Ty) (x : Option (T t))
  deriving Inhabited

/-- The cells of typed data. -/
def cellsT : (t : Ty) → T t → List PV
  | .int k, x => [.v (.int k x)]
  | .u8, x => [.v (.int .u8 (x.toNat : Int))]
  | .bool, x => [.v (.bool x)]
  | .str, x => [.v (.string ⟨⟨x⟩⟩)]
  | .err, x => [.err x]
  | .sl t, x => [.sl t x]
  | .pair a b, x => cellsT a x.1 ++ cellsT b x.2
  | .opt t, x => [.opt t x]
def cellsL (t : Ty) : List (T t) → List PV
  | [] => []
  | x :: l => cellsT t x ++ cellsL t l

/-- Values of a running function. -/
inductive IV where
  | p (x : PV)
  | agg (l : List IV)
  | tup (l : List IV)
  | row (b sz : Nat)
  | rw (b sz off n : Nat)
  | ptr (b off : Nat)
  | eptr (b sz j off : Nat)
  | fn (f : Fn) (cap : List IV)
  | it (b : Nat)
  | undef
  deriving Inhabited

/-- Blocks of the function's own. -/
inductive Blk where
  | pc (l : List PV)
  | gc (l : List IV)
  | tc (t : Ty) (l : List (T t))
  | iter (s : ByteArray) (pos : Nat)
  | dead
  deriving Inhabited

abbrev Hp := List Blk

def allV : List PV → Option (List Value)
  | [] => some []
  | .v x :: l => match allV l with | some r => some (x :: r) | none => none
  | _ :: _ => none

def allP : List IV → Option (List PV)
  | [] => some []
  | .p x :: l => match allP l with | some r => some (x :: r) | none => none
  | _ :: _ => none

def mkAggP (l : List PV) : PV := match allV l with | some r => .v (.agg ⟨r⟩) | none => .agg l
def mkTupP (l : List PV) : PV := match allV l with | some r => .v (.tuple ⟨r⟩) | none => .tup l
def mkAgg (l : List IV) : IV := match allP l with | some r => .p (mkAggP r) | none => .agg l
def mkTup (l : List IV) : IV := match allP l with | some r => .p (mkTupP r) | none => .tup l
def mkBlk (l : List IV) : Blk := match allP l with | some r => .pc r | none => .gc l

/-- The cells of a value. -/
def cellsP : PV → List PV
  | .v (.agg cs) => cs.toList.map .v
  | .agg l => l
  | x => [x]
def cellsI : IV → List IV
  | .p x => (cellsP x).map .p
  | .agg l => l
  | x => [x]

def blkCells : Blk → Option (List IV)
  | .pc l => some (l.map .p)
  | .gc l => some l
  | .tc t l => some ((cellsL t l).map .p)
  | _ => none

/-- Cells from one on: as a variable of size n. -/
def sub {α : Type} (l : List α) (off n : Nat) : List α := (l.drop off).take n

/-- A store of cells into a list. -/
def over {α : Type} : List α → Nat → List α → List α
  | l, _, [] => l
  | l, off, x :: xs => over (l.set off x) (off + 1) xs

/-- Handles are changed: k says how (of what is no aggregate). -/
def killL (k : IV → IV) : List IV → List IV
  | [] => []
  | x :: l => k x :: killL k l
def mapA (k : IV → IV) : IV → IV
  | .agg l => .agg (killL k l)
  | .tup _ => .undef
  | x => k x
def mapI (k : IV → IV) : IV → IV
  | .tup l => .tup (killL (mapA k) l)
  | x => mapA k x
def mapB (k : IV → IV) : Blk → Blk
  | .gc l => .gc (killL (mapI k) l)
  | x => x
def mapH (k : IV → IV) : Hp → Hp
  | [] => []
  | x :: l => mapB k x :: mapH k l
/-- What reads the row b through any handle is forgotten. -/
def kill (b : Nat) : IV → IV
  | .row c sz => if c = b then .undef else .row c sz
  | .rw c sz off n => if c = b then .undef else .rw c sz off n
  | .eptr c sz j off => if c = b then .undef else .eptr c sz j off
  | .agg _ => .undef
  | .tup _ => .undef
  | x => x

/-- A value whose memory turns no more, out of the function's own blocks. -/
def freezeL (fz : IV → Option PV) : List IV → Option (List PV)
  | [] => some []
  | x :: l => match fz x with
    | some y => match freezeL fz l with | some r => some (y :: r) | none => none
    | none => none
def freeze (H : Hp) : Nat → IV → Option PV
  | _, .p x => some x
  | k + 1, .agg l => match freezeL (freeze H k) l with | some r => some (mkAggP r) | none => none
  | k + 1, .tup l => match freezeL (freeze H k) l with | some r => some (mkTupP r) | none => none
  | _, .row b sz => match H[b]? with
    | some (.tc t l) => if sz = sizeTy t then some (.sl t l) else none
    | _ => none
  | _, .rw b sz a n => match H[b]? with
    | some (.tc t l) => if sz = sizeTy t then some (.sl t ((l.drop a).take n)) else none
    | _ => none
  | k + 1, .ptr b off => match H[b]? with
    | some (.pc l) => some (.rop (l.drop off))
    | some (.gc l) => match freezeL (freeze H k) (l.drop off) with | some r => some (.rop r) | none => none
    | _ => none
  | _, _ => none
/-- Values of one cell. -/
def oneV : Value → Bool
  | .agg _ => false
  | .tuple _ => false
  | _ => true
def oneI : IV → Bool
  | .p (.v x) => oneV x
  | .p (.agg _) => false
  | .p (.tup _) => false
  | .agg _ => false
  | .tup _ => false
  | .undef => false
  | _ => true
def oneL : List IV → Bool
  | [] => true
  | x :: l => oneI x && oneL l
/-- What a function value may bear. -/
def stabL : List IV → Bool
  | [] => true
  | .p _ :: l => stabL l
  | .ptr _ _ :: l => stabL l
  | _ :: _ => false
/-- What stays as it is while boxes keep their places. -/
def stabI : IV → IV
  | .p x => .p x
  | .ptr b o => .ptr b o
  | .fn f c => .fn f c
  | .it b => .it b
  | _ => .undef
/-- An argument that is lent: read alone, while the call lasts. -/
def lendL (H : Hp) : List IV → Option (List PV) := freezeL (freeze H 3)
def isP : IV → Bool
  | .p _ => true
  | _ => false
def allIsP : List IV → Bool
  | [] => true
  | x :: l => isP x && allIsP l

/-! ### Out of cells -/
def asI (k : IntKind) : PV → Option Int
  | .v (.int k' n) => if k' = k then some n else none
  | _ => none
def asB : PV → Option Bool
  | .v (.bool b) => some b
  | _ => none
def asS : PV → Option ByteArray
  | .v (.string s) => some s
  | _ => none
def asSl (t : Ty) : PV → Option (List (T t))
  | .sl t' l => if h : t' = t then some (h ▸ l) else none
  | .v (.slice none 0 0) => some []
  | _ => none
def asE : PV → Option Bool
  | .err b => some b
  | .v .nilIface => some true
  | _ => none
def inU8 (n : Int) : Bool := decide (0 ≤ n) && decide (n < 256)
/-- What is asked of numbers alone. -/
def chkR {α : Type} (b : Bool) (x : Option α) : Option α := bif b then x else none
def chk {α : Type} (b : Bool) (x : Option α) : Option α := bif b then x else none
/-- An element. -/
def getK {α ρ : Type} (l : List α) (j : Nat) (K : α → Option ρ) : Option ρ := match l[j]? with
  | some x => K x
  | none => none
/-- What a pointer leads to. -/
def getO {α ρ : Type} (x : Option α) (K : α → Option ρ) : Option ρ := match x with
  | some y => K y
  | none => none
def decT {ρ : Type} : (t : Ty) → List PV → (T t → List PV → Option ρ) → Option ρ
  | _, [], _ => none
  | .int k, x :: r, K => match asI k x with
    | some n => K n r
    | none => none
  | .u8, x :: r, K => match asI .u8 x with
    | some n => chkR (inU8 n) (K (UInt8.ofNat n.toNat) r)
    | none => none
  | .bool, x :: r, K => match asB x with
    | some b => K b r
    | none => none
  | .str, x :: r, K => match asS x with
    | some s => K s.data.toList r
    | none => none
  | .err, x :: r, K => match asE x with
    | some b => K b r
    | none => none
  | .sl t, x :: r, K => match asSl t x with
    | some l => K l r
    | none => none
  | .pair a b, x :: r, K => decT a (x :: r) fun y r => decT b r fun z r => K (y, z) r
  | .opt t, x :: r, K => match x with
    | .opt t' y => if h : t' = t then K (h ▸ y) r else none
    | .v (.pointer none) => K none r
    | .rop l => decT t l fun y q => match q with
      | [] => K (some y) r
      | _ :: _ => none
    | _ => none

/-! ### Shapes of states: which cells are told by variables -/
inductive SA where
  | drop
  | ty (t : Ty)
  | row (i : Nat) (t : Ty)
  | ptr (i off : Nat)
  | it (i : Nat)
  deriving Inhabited
inductive SS where
  | one (a : SA)
  | val (t : Ty)
  | agg (l : List SA)
  deriving Inhabited
inductive BS where
  | dead
  | tc (t : Ty)
  | cells (l : List SA)
  | iter
  deriving Inhabited
structure Spec where
  ss : List SS
  bs : List BS
  deriving Inhabited
inductive HTy where
  | ty (t : Ty)
  | nat
  deriving Inhabited
@[reducible] def HA : HTy → Type
  | .ty t => T t
  | .nat => Nat
@[reducible] def Prods : List HTy → Type
  | [] => Unit
  | [a] => HA a
  | a :: b :: l => HA a × Prods (b :: l)
inductive Dyn where
  | ty (t : Ty) (x : T t)
  | nat (n : Nat)
def hsA : SA → List HTy
  | .ty t => [.ty t]
  | _ => []
def hsAs : List SA → List HTy
  | [] => []
  | a :: l => hsA a ++ hsAs l
def hsS : SS → List HTy
  | .one a => hsA a
  | .val t => [.ty t]
  | .agg l => hsAs l
def hsSs : List SS → List HTy
  | [] => []
  | a :: l => hsS a ++ hsSs l
def hsB : BS → List HTy
  | .tc t => [.ty (.sl t)]
  | .cells l => hsAs l
  | .iter => [.ty .str, .nat]
  | .dead => []
def hsBs : List BS → List HTy
  | [] => []
  | a :: l => hsB a ++ hsBs l
def holes (s : Spec) : List HTy := hsSs s.ss ++ hsBs s.bs
@[reducible] def Holes (s : Spec) : Type := Prods (holes s)

/-- From variables to a row of them, and back. -/
def dyn1 : (h : HTy) → HA h → Dyn
  | .ty t, x => .ty t x
  | .nat, x => .nat x
def dyns : (l : List HTy) → Prods l → List Dyn
  | [], _ => []
  | [a], x => [dyn1 a x]
  | a :: b :: l, x => dyn1 a x.1 :: dyns (b :: l) x.2
def und1 {ρ : Type} : (h : HTy) → Dyn → (HA h → Option ρ) → Option ρ
  | .ty t, .ty t' x, K => if h : t' = t then K (h ▸ x) else none
  | .nat, .nat n, K => K n
  | _, _, _ => none
def unds {ρ : Type} : (l : List HTy) → List Dyn → (Prods l → Option ρ) → Option ρ
  | [], [], K => K ()
  | [a], [x], K => und1 a x K
  | a :: b :: l, x :: r, K => und1 a x fun y => unds (b :: l) r fun z => K (y, z)
  | _, _, _ => none

/-- A state out of its variables. -/
def headP : List PV → IV
  | y :: _ => .p y
  | [] => .undef
def rebA : SA → List Dyn → IV × List Dyn
  | .ty _, .ty t x :: d => (headP (cellsT t x), d)
  | .row i t, d => (.row i (sizeTy t), d)
  | .ptr i off, d => (.ptr i off, d)
  | .it i, d => (.it i, d)
  | _, d => (.undef, d)
def rebAs : List SA → List Dyn → List IV × List Dyn
  | [], d => ([], d)
  | a :: l, d => ((rebA a d).1 :: (rebAs l (rebA a d).2).1, (rebAs l (rebA a d).2).2)
def rebS : SS → List Dyn → IV × List Dyn
  | .one a, d => rebA a d
  | .val _, .ty t x :: d => (.p (mkAggP (cellsT t x)), d)
  | .agg l, d => (mkAgg (rebAs l d).1, (rebAs l d).2)
  | _, d => (.undef, d)
def rebSs : List SS → List Dyn → List IV × List Dyn
  | [], d => ([], d)
  | a :: l, d => ((rebS a d).1 :: (rebSs l (rebS a d).2).1, (rebSs l (rebS a d).2).2)
def rebB : BS → List Dyn → Blk × List Dyn
  | .tc _, .ty (.sl t) l :: d => (.tc t l, d)
  | .cells l, d => (mkBlk (rebAs l d).1, (rebAs l d).2)
  | .iter, .ty .str s :: .nat n :: d => (.iter ⟨⟨s⟩⟩ n, d)
  | _, d => (.dead, d)
def rebBs : List BS → List Dyn → List Blk × List Dyn
  | [], d => ([], d)
  | a :: l, d => ((rebB a d).1 :: (rebBs l (rebB a d).2).1, (rebBs l (rebB a d).2).2)
def rebT (s : Spec) (x : Holes s) : List IV := (rebSs s.ss (dyns (holes s) x)).1
def rebH (s : Spec) (x : Holes s) : Hp := (rebBs s.bs (rebSs s.ss (dyns (holes s) x)).2).1

/-- Which block stands for which one (none: a slice that is nothing), and which rows turn no more. -/
abbrev G := List (Nat × Option Nat)
structure Dc where
  g : G
  fz : List Nat
def look (i : Nat) : G → Option (Option Nat)
  | [] => none
  | (j, b) :: l => if j = i then some b else look i l
def bindG {ρ : Type} (i : Nat) (b : Option Nat) (d : Dc) (K : Dc → Option ρ) : Option ρ := match look i d.g with
  | none => K ⟨(i, b) :: d.g, d.fz⟩
  | some c => if c = b then K d else none
def frzK {ρ : Type} (H : Hp) (x : IV) (d : Dc) (K : PV → Dc → Option ρ) : Option ρ := match x with
  | .p y => K y d
  | .row b sz => match H[b]? with
    | some (.tc t l) => if sz = sizeTy t then K (.sl t l) ⟨d.g, b :: d.fz⟩ else none
    | _ => none
  | .rw b sz a n => match H[b]? with
    | some (.tc t l) => if sz = sizeTy t then K (.sl t ((l.drop a).take n)) ⟨d.g, b :: d.fz⟩ else none
    | _ => none
  | .ptr b off => match H[b]? with
    | some (.pc l) => K (.rop (l.drop off)) ⟨d.g, b :: d.fz⟩
    | _ => none
  | _ => none
def frzKL {ρ : Type} (H : Hp) : List IV → Dc → (List PV → Dc → Option ρ) → Option ρ
  | [], d, K => K [] d
  | x :: l, d, K => frzK H x d fun y d => frzKL H l d fun r d => K (y :: r) d
def decA {ρ : Type} (H : Hp) (a : SA) (x : IV) (d : Dc) (K : List Dyn → Dc → Option ρ) : Option ρ := match a with
  | .drop => K [] d
  | .ty t => frzK H x d fun y d => decT t [y] fun v r => match r with
    | [] => K [.ty t v] d
    | _ :: _ => none
  | .row i t => match x with
    | .row b sz => if sz = sizeTy t then bindG i (some b) d (K []) else none
    | .p (.v (.slice none 0 0)) => bindG i none d (K [])
    | _ => none
  | .ptr i off => match x with
    | .ptr b o => if o = off then bindG i (some b) d (K []) else none
    | _ => none
  | .it i => match x with
    | .it b => bindG i (some b) d (K [])
    | _ => none
def decAs {ρ : Type} (H : Hp) : List SA → List IV → Dc → (List Dyn → Dc → Option ρ) → Option ρ
  | [], [], d, K => K [] d
  | a :: l, x :: xs, d, K => decA H a x d fun e d => decAs H l xs d fun r d => K (e ++ r) d
  | _, _, _, _ => none
def isAggI : IV → Bool
  | .p (.v (.agg _)) => true
  | .p (.agg _) => true
  | .agg _ => true
  | _ => false
def decSlot {ρ : Type} (H : Hp) (s : SS) (x : IV) (d : Dc) (K : List Dyn → Dc → Option ρ) : Option ρ := match s with
  | .one a => decA H a x d K
  | .val t => if isAggI x = true then frzKL H (cellsI x) d fun ps d => decT t ps fun v r => match r with
    | [] => K [.ty t v] d
    | _ :: _ => none
    else none
  | .agg l => if isAggI x = true then decAs H l (cellsI x) d K else none
def decSs {ρ : Type} (H : Hp) : List SS → List IV → Dc → (List Dyn → Dc → Option ρ) → Option ρ
  | [], _, d, K => K [] d
  | s :: l, x :: xs, d, K => decSlot H s x d fun e d => decSs H l xs d fun r d => K (e ++ r) d
  | _ :: _, [], _, _ => none
def decB {ρ : Type} (H : Hp) (i : Nat) (b : BS) (d : Dc) (K : List Dyn → Dc → Option ρ) : Option ρ := match b with
  | .dead => K [] d
  | .tc t => match look i d.g with
    | some (some c) => match H[c]? with
      | some (.tc t' l) => if h : t' = t then K [.ty (.sl t) (h ▸ l)] d else none
      | _ => none
    | some none => K [.ty (.sl t) []] d
    | none => none
  | .cells l => match look i d.g with
    | some (some c) => match H[c]? with
      | some (.pc cs) => decAs H l (cs.map .p) d K
      | some (.gc cs) => decAs H l cs d K
      | _ => none
    | _ => none
  | .iter => match look i d.g with
    | some (some c) => match H[c]? with
      | some (.iter s pos) => K [.ty .str s.data.toList, .nat pos] d
      | _ => none
    | _ => none
def decBs {ρ : Type} (H : Hp) : Nat → List BS → Dc → (List Dyn → Dc → Option ρ) → Option ρ
  | _, [], d, K => K [] d
  | i, b :: l, d, K => decB H i b d fun e d => decBs H (i + 1) l d fun r d => K (e ++ r) d
/-- One block stands for one, and what turns no more stands for none. -/
def okG (fz : List Nat) (n : Nat) : G → Bool
  | [] => true
  | (i, none) :: l => decide (i < n) && okG fz n l
  | (i, some b) :: l => decide (i < n) && (!fz.contains b && (!(l.any fun q => q.2 == some b) && okG fz n l))
def decSpec {ρ : Type} (s : Spec) (t : List IV) (H : Hp) (K : Holes s → Option ρ) : Option ρ :=
  decSs H s.ss t ⟨[], []⟩ fun ds d => decBs H 0 s.bs d fun es d => chk (okG d.fz s.bs.length d.g) (unds (holes s) (ds ++ es) K)

/-! ### What a piece of code comes to -/
inductive OKind where
  | nrm
  | ext (id : Nat)
  | ret
  deriving DecidableEq, Inhabited
abbrev Cut := List (OKind × Spec)
@[reducible] def Outs : Cut → Type
  | [] => Empty
  | [a] => Holes a.2
  | a :: b :: l => Holes a.2 ⊕ Outs (b :: l)
inductive HT where
  | no
  | node (c : Option (Spec × Cut)) (a b : HT)
  | loop (hd : Spec) (cs : Cut) (a : HT)
  deriving Inhabited
def HT.cut? : HT → Option (Spec × Cut)
  | .node c _ _ => c
  | _ => none
def HT.l : HT → HT
  | .node _ a _ => a
  | .loop _ _ a => a
  | .no => .no
def HT.r : HT → HT
  | .node _ _ b => b
  | _ => .no
def HT.bare : HT → HT
  | .node _ a b => .node none a b
  | x => x
abbrev KN (ρ : Type) := List IV → Hp → Option ρ
abbrev KX (ρ : Type) := Nat → List IV → Hp → Option ρ
def undefs : Nat → List IV
  | 0 => []
  | n + 1 => .undef :: undefs n
def padT (n : Nat) (l : List IV) : List IV := l ++ undefs (n - l.length)
def injK {ρ : Type} : (cs : Cut) → OKind → List IV → Hp → (Outs cs → Option ρ) → Option ρ
  | [], _, _, _, _ => none
  | [a], k, t, H, K => if a.1 = k then decSpec a.2 t H K else none
  | a :: b :: l, k, t, H, K => if a.1 = k then decSpec a.2 t H fun x => K (.inl x) else injK (b :: l) k t H fun o => K (.inr o)
/-- A function's results, as an answer. -/
def injR {ρ : Type} : (cs : Cut) → List IV → Hp → (Outs cs → Option ρ) → Option ρ
  | [], _, _, _ => none
  | [a], l, H, K => if a.1 = .ret ∧ l.length = a.2.ss.length then decSpec a.2 l H K else none
  | a :: b :: q, l, H, K => if a.1 = .ret ∧ l.length = a.2.ss.length then decSpec a.2 l H fun x => K (.inl x) else injR (b :: q) l H fun o => K (.inr o)
def contS {ρ : Type} (k : OKind) (s : Spec) (nt : Nat) (x : Holes s) (kn : KN ρ) (kx : KX ρ) (kr : KN ρ) : Option ρ := match k with
  | .nrm => kn (padT nt (rebT s x)) (rebH s x)
  | .ext id => kx id (padT nt (rebT s x)) (rebH s x)
  | .ret => kr (rebT s x) (rebH s x)
def contK {ρ : Type} : (cs : Cut) → Nat → Outs cs → KN ρ → KX ρ → KN ρ → Option ρ
  | [], _, _, _, _, _ => none
  | [a], nt, x, kn, kx, kr => contS a.1 a.2 nt x kn kx kr
  | a :: b :: l, nt, o, kn, kx, kr => Sum.elim (fun x => contS a.1 a.2 nt x kn kx kr) (fun o => contK (b :: l) nt o kn kx kr) o
/-- What goes on with an answer. -/
def obind {α ρ : Type} (o : Option α) (K : α → Option ρ) : Option ρ := o.bind K
def wrapC {ρ : Type} (h : HT) (nt : Nat) (t : List IV) (H : Hp) (pc : (ins : Spec) → (cs : Cut) → Holes ins → Option (Outs cs)) (f : List IV → Hp → (σ : Type) → KN σ → KX σ → KN σ → Option σ) (kn : KN ρ) (kx : KX ρ) (kr : KN ρ) : Option ρ := match h.cut? with
  | some (ins, cs) => decSpec ins t H fun x => obind (pc ins cs x) fun o => contK cs nt o kn kx kr
  | none => f t H ρ kn kx kr

/-- What the machine is of. -/
structure Env where
  P : Program
  /-- functions that are told, not read -/
  intr : FuncId → Option (List PV → Option PV)
  /-- functions whose regions have been looked at -/
  ok : FuncId → Bool
  /-- functions that are lent nothing, or answer nothing that leads into what they were lent -/
  strict : FuncId → Bool
  /-- the shape of a call's results -/
  res : FuncId → Spec
  /-- where a function's code is cut -/
  hint : FuncId → HT
  /-- functions that are gone through in place, over the caller's blocks -/
  here : FuncId → Bool := fun _ => false
  /-- told functions whose one result, a slice, is the caller's own -/
  mine : FuncId → Bool := fun _ => false
  /-- slices whose own rows, cut at the end, stay own -/
  cutT : TypeId → Bool := fun _ => false
  /-- functions whose drawn regions are gone through by plan: first what asks nothing of the blocks, then the rest, one behind the other -/
  plan : FuncId → Bool := fun _ => false
/-- The machine at so many rounds. -/
structure Mach where
  call : FuncId → (s : Spec) → List PV → Option (Holes s)
  loop : FuncId → Code → HT → (hd : Spec) → (cs : Cut) → Holes hd → Option (Outs cs)
  /-- a loop that is gone through round by round -/
  go : FuncId → Code → List IV → Hp → (ρ : Type) → KX ρ → KN ρ → Option ρ
  /-- a piece of code by itself -/
  piece : FuncId → Code → HT → (ins : Spec) → (cs : Cut) → Holes ins → Option (Outs cs)
  /-- a function that is gone through in place -/
  inl : FuncId → List IV → Hp → (ρ : Type) → KN ρ → Option ρ

def evI (t : List IV) : Operand → IV
  | .tmp i => t.getD i .undef
  | .const v => .p (.v v)
  | .global g => .p (.v (.pointer (some ⟨g, 0, none⟩)))
  | .func f => .p (.v (.func (.func f) #[] #[]))
def evL (t : List IV) : List Operand → List IV
  | [] => []
  | x :: l => evI t x :: evL t l

def sizeT (P : Program) (t : TypeId) : Option Nat := (P.info? t).map (·.size)
def isAggT (P : Program) (t : TypeId) : Bool := match P.underlying t with
  | some (.struct _) => true
  | some (.array _ _) => true
  | _ => false
def isSliceT (P : Program) (t : TypeId) : Bool := match P.underlying t with | some (.slice _) => true | _ => false
def elemT (P : Program) (t : TypeId) : Option TypeId := match P.underlying t with
  | some (.slice e) => some e
  | some (.array _ e) => some e
  | _ => none
def elemSz (P : Program) (t : TypeId) : Option Nat := match elemT P t with
  | some e => match sizeT P e with
    | some 0 => none
    | r => r
  | none => none
def isU8 (P : Program) (t : TypeId) : Bool := match elemT P t with
  | some e => match P.underlying e with | some (.int .u8) => true | _ => false
  | none => false
def isStrT (P : Program) (t : TypeId) : Bool := match P.underlying t with | some .string => true | _ => false
def zeroT (P : Program) (t : TypeId) : Option Value := match P.info? t with | some i => i.zero | none => none
def bytesT (P : Program) (t : TypeId) : Nat := match P.info? t with | some i => i.bytes | none => 2 ^ 60
/-- The data of a type. -/
def tyFs (r : TypeId → Option Ty) : List Field → Option Ty
  | [] => none
  | [f] => r f.type
  | f :: g :: l => match r f.type, tyFs r (g :: l) with
    | some a, some b => some (.pair a b)
    | _, _ => none
def tyN (t : Ty) : Nat → Option Ty
  | 0 => none
  | 1 => some t
  | n + 2 => match tyN t (n + 1) with
    | some b => some (.pair t b)
    | none => none
def tyT (P : Program) : Nat → TypeId → Option Ty
  | 0, _ => none
  | d + 1, t => match P.underlying t with
    | some (.int k) => if k = .u8 then some .u8 else some (.int k)
    | some .bool => some .bool
    | some .string => some .str
    | some (.slice e) => match tyT P d e with
      | some t => some (.sl t)
      | none => none
    | some (.struct fs) => tyFs (tyT P d) fs.toList
    | some (.array n e) => match tyT P d e with
      | some t => tyN t n
      | none => none
    | _ => none
/-- A slice's element data. -/
def elTy (P : Program) (t : TypeId) : Option Ty := match elemT P t with
  | some e => match tyT P 8 e with
    | some q => if elemSz P t = some (sizeTy q) then some q else none
    | none => none
  | none => none

/-! ### Operations -/
section
variable {ρ : Type}
/-- A variable of a type out of memory. -/
def loadP (P : Program) (t : TypeId) (l : List PV) (K : IV → Option ρ) : Option ρ :=
  if isAggT P t then match sizeT P t with
    | some n => if (l.take n).length = n then K (.p (mkAggP (l.take n))) else none
    | none => none
  else match P.underlying t, l with
    | some _, x :: _ => K (.p x)
    | _, _ => none
def loadG (P : Program) (t : TypeId) (l : List IV) (K : IV → Option ρ) : Option ρ :=
  if isAggT P t then match sizeT P t with
    | some n => if (l.take n).length = n then K (mkAgg (l.take n)) else none
    | none => none
  else match P.underlying t, l with
    | some _, x :: _ => K x
    | _, _ => none
/-- The offset of a struct's field, where the field has cells. -/
def fieldOff (P : Program) (s : TypeId) (f : Nat) : Option Nat := match P.underlying s with
  | some (.struct fs) => match fs[f]? with
    | some fd => match sizeT P fd.type with
      | some 0 => none
      | some _ => some fd.offset
      | none => none
    | none => none
  | _ => none
def slen (s : ByteArray) : Nat := s.data.toList.length
def strEq (x y : ByteArray) : Bool := x.data.toList == y.data.toList
def bL (l : List UInt8) (i : Int) : Int := ((l.getD i.toNat 0).toNat : Int)

/-- '+ - * ..' of whole numbers. -/
def binI (op : BinOp) (k : IntKind) (a b : Int) (K : Value → Option ρ) : Option ρ := match op with
  | .add => K (.int k (k.wrap (a + b)))
  | .sub => K (.int k (k.wrap (a - b)))
  | .mul => K (.int k (k.wrap (a * b)))
  | .quo => chk (b != 0) (K (.int k (k.wrap (a.tdiv b))))
  | .rem => chk (b != 0) (K (.int k (a.tmod b)))
  | .and => K (.int k (k.wrap (BitVec.ofInt k.bits a &&& BitVec.ofInt k.bits b).toNat))
  | .or => K (.int k (k.wrap (BitVec.ofInt k.bits a ||| BitVec.ofInt k.bits b).toNat))
  | .xor => K (.int k (k.wrap (BitVec.ofInt k.bits a ^^^ BitVec.ofInt k.bits b).toNat))
  | .andNot => K (.int k (k.wrap (BitVec.ofInt k.bits a &&& ~~~(BitVec.ofInt k.bits b)).toNat))
  | .eql => K (.bool (a == b))
  | .neq => K (.bool (a != b))
  | .lss => K (.bool (decide (a < b)))
  | .leq => K (.bool (decide (a ≤ b)))
  | .gtr => K (.bool (decide (a > b)))
  | .geq => K (.bool (decide (a ≥ b)))
  | _ => none
def shI (op : BinOp) (k : IntKind) (a b : Int) (K : Value → Option ρ) : Option ρ := match op with
  | .shl => chk (decide (0 ≤ b)) (K (.int k (k.wrap (a * 2 ^ min b.toNat k.bits))))
  | .shr => chk (decide (0 ≤ b)) (K (.int k (a.fdiv (2 ^ min b.toNat k.bits))))
  | _ => none
def isSh : BinOp → Bool
  | .shl => true
  | .shr => true
  | _ => false
/-- The kinds of cells that can be compared. -/
inductive CK where
  | int (k : IntKind)
  | bool
  | str
  deriving DecidableEq, Inhabited
/-- Types whose values are the same if their cells are: the cells' kinds. -/
def eksF (P : Program) (ek : TypeId → Option (List CK)) : Nat → List Field → Option (List CK)
  | _, [] => some []
  | off, f :: l => if f.name != "_" && f.offset == off then
      match ek f.type, sizeT P f.type with
      | some ks, some n => if ks.length = n then match eksF P ek (off + n) l with
          | some r => some (ks ++ r)
          | none => none
        else none
      | _, _ => none
    else none
def eks (P : Program) : Nat → TypeId → Option (List CK)
  | 0, _ => none
  | d + 1, t => match P.underlying t with
    | some .bool => some [.bool]
    | some (.int k) => some [.int k]
    | some .string => some [.str]
    | some (.struct fs) => if P.stoodInHeld t then none else eksF P (eks P d) 0 fs.toList
    | _ => none
/-- The same cells? -/
def eq1 : CK → Value → Value → Option Bool
  | .int k, .int k1 a, .int k2 b => if k1 = k ∧ k2 = k then some (a == b) else none
  | .bool, .bool a, .bool b => some (a == b)
  | .str, .string a, .string b => some (strEq a b)
  | _, _, _ => none
def eqC : List CK → List Value → List Value → Option Bool
  | [], [], [] => some true
  | k :: ks, x :: xs, y :: ys => match eq1 k x y, eqC ks xs ys with
    | some a, some b => some (a && b)
    | _, _ => none
  | _, _, _ => none
def isStructT (P : Program) (t : TypeId) : Bool := match P.underlying t with | some (.struct _) => true | _ => false
def binK (P : Program) (op : BinOp) (t : TypeId) (x y : Value) (K : Value → Option ρ) : Option ρ := match x, y with
  | .int k a, .int k' b => if isSh op then shI op k a b K else if k = k' then binI op k a b K else none
  | .string a, .string b => match op with
    | .add => chk (decide (slen a + slen b < 2 ^ 62)) (K (.string ⟨⟨a.data.toList ++ b.data.toList⟩⟩))
    | .eql => K (.bool (strEq a b))
    | .neq => K (.bool !(strEq a b))
    | _ => none
  | .pointer none, .pointer none => match op, P.underlying t with
    | .eql, some (.pointer _) => K (.bool true)
    | .neq, some (.pointer _) => K (.bool false)
    | _, _ => none
  | .bool a, .bool b => match op, P.underlying t with
    | .eql, some .bool => K (.bool (a == b))
    | .neq, some .bool => K (.bool !(a == b))
    | _, _ => none
  | .agg a, .agg b => match isStructT P t, eks P 8 t with
    | true, some ks => match op, eqC ks a.toList b.toList with
      | .eql, some r => K (.bool r)
      | .neq, some r => K (.bool !r)
      | _, _ => none
    | _, _ => none
  | _, _ => none

/-- Parts laid over a value's cells. -/
def fillI (place : Nat → Option (Nat × Nat)) : List (Nat × IV) → List IV → Option (List IV)
  | [], l => some l
  | (i, x) :: r, l => match place i with
    | some (off, n) => if (cellsI x).length = n ∧ off + n ≤ l.length then fillI place r (over l off (cellsI x)) else none
    | none => none
def evParts (t : List IV) : List (Nat × Operand) → List (Nat × IV)
  | [] => []
  | (i, x) :: l => (i, evI t x) :: evParts t l
def noUndef : List (Nat × IV) → Bool
  | [] => true
  | (_, .undef) :: _ => false
  | _ :: l => noUndef l
def repL {α : Type} (l : List α) : Nat → List α
  | 0 => []
  | n + 1 => l ++ repL l n
def placesL (P : Program) : List Field → Option (List (Nat × Nat))
  | [] => some []
  | f :: l => match sizeT P f.type, placesL P l with
    | some n, some r => some ((f.offset, n) :: r)
    | _, _ => none
def buildI (P : Program) (t : TypeId) (ps : List (Nat × IV)) : Option (List IV) :=
  match zeroT P t with
  | some z => match P.underlying t with
    | some (.struct fs) => match placesL P fs.toList with
      | some pl => fillI (fun i => pl[i]?) ps (cellsI (.p (.v z)))
      | none => none
    | some (.array _ e) => match sizeT P e with
      | some n => fillI (fun i => some (i * n, n)) ps (cellsI (.p (.v z)))
      | none => none
    | _ => none
  | none => none
def buildS (P : Program) (t : TypeId) (len : Nat) (ps : List (Nat × IV)) : Option (Nat × List IV) :=
  match elemT P t, elemSz P t with
  | some e, some n => if len * n ≤ 2 ^ 24 then match zeroT P e with
      | some z => if z.cells.size = n then match fillI (fun i => some (i * n, n)) ps (repL (cellsI (.p (.v z))) len) with
        | some l => some (n, l)
        | none => none
        else none
      | none => none
    else none
  | _, _ => none
/-- A known row's elements. -/
def decRow (t : Ty) : Nat → List PV → (List (T t) → Option ρ) → Option ρ
  | 0, [], K => K []
  | n + 1, l, K => decT t l fun x r => decRow t n r fun xs => K (x :: xs)
  | _, _, _ => none

/-- A slice's elements. -/
def srcT (H : Hp) (t : Ty) (x : IV) (K : List (T t) → Option ρ) : Option ρ := match x with
  | .p y => match asSl t y with
    | some l => K l
    | none => none
  | .row b sz => match H[b]? with
    | some (.tc t' l) => if h : t' = t then if sz = sizeTy t then K (h ▸ l) else none else none
    | _ => none
  | .rw b sz a n => match H[b]? with
    | some (.tc t' l) => if h : t' = t then if sz = sizeTy t then K (((h ▸ l : List (T t)).drop a).take n) else none else none
    | _ => none
  | _ => none
def blkLen? (H : Hp) (b sz : Nat) : Option Nat := match H[b]? with
  | some (.tc t l) => if sz = sizeTy t then some l.length else none
  | _ => none
def lenI (H : Hp) : IV → Option Int
  | .p (.sl _ l) => some (l.length : Nat)
  | .p (.v (.slice _ n _)) => some n
  | .row b sz => match blkLen? H b sz with
    | some n => some (n : Nat)
    | none => none
  | .rw _ _ _ n => some n
  | _ => none
def optBound (t : List IV) (x : Option Operand) (d : Int) : Option Int := match x with
  | none => some d
  | some o => match evI t o with
    | .p (.v (.int _ n)) => some n
    | _ => none

/-- A new block. -/
def newK (H : Hp) (l : List IV) (K : IV → Option Nat → Hp → Option ρ) : Option ρ := chk (oneL l && !l.isEmpty) (K (.ptr H.length 0) none (H ++ [mkBlk l]))
def storeI (H : Hp) (b off : Nat) (l : List IV) : Option Hp := match H[b]? with
  | some (.pc c) => if off + l.length ≤ c.length then match allP l with
      | some ps => some (H.set b (.pc (over c off ps)))
      | none => some (H.set b (.gc (over (c.map .p) off l)))
    else none
  | some (.gc c) => if off + l.length ≤ c.length then some (H.set b (.gc (over c off l))) else none
  | _ => none
def loadB (P : Program) (H : Hp) (ty : TypeId) (b off : Nat) (K : IV → Option ρ) : Option ρ := match H[b]? with
  | some (.pc l) => loadP P ty (l.drop off) K
  | some (.gc l) => loadG P ty (l.drop off) K
  | _ => none
def loadE (P : Program) (H : Hp) (ty : TypeId) (b sz j off : Nat) (K : IV → Option ρ) : Option ρ := match H[b]? with
  | some (.tc t l) => if sz = sizeTy t then getK l j fun x => loadP P ty ((cellsT t x).drop off) K else none
  | _ => none
def storeK (H : Hp) (n b off : Nat) (y : IV) (K : Hp → Option ρ) : Option ρ :=
  if (cellsI y).length = n ∧ n ≠ 0 then chk (oneL (cellsI y)) (match storeI H b off (cellsI y) with
    | some H' => K H'
    | none => none) else none
def storeE (H : Hp) (n b sz j off : Nat) (y : IV) (K : Hp → Option ρ) : Option ρ :=
  match H[b]? with
  | some (.tc t l) => if sz = sizeTy t ∧ (cellsI y).length = n ∧ off + n ≤ sz then match allP (cellsI y) with
      | some ps => chk (oneL (cellsI y)) (getK l j fun x => decT t (over (cellsT t x) off ps) fun x' r => match r with
        | [] => K (H.set b (.tc t (l.set j x')))
        | _ :: _ => none)
      | none => none
    else none
  | _ => none
def allOneV : List Value → Bool
  | [] => true
  | x :: l => oneV x && allOneV l
def zeroOK (P : Program) (e : TypeId) (sz : Nat) : Bool := match zeroT P e with
  | some z => z.cells.size == sz && allOneV z.cells.toList
  | none => false
def fits (n b : Nat) : Bool := decide (n * (b + 1) < 2 ^ 46)
/-- What is appended: a string's bytes, or a slice's elements. -/
def srcA (H : Hp) (t : Ty) (x : IV) (K : List (T t) → Option ρ) : Option ρ := match x with
  | .p (.v (.string s)) => match t, K with
    | .u8, K => K s.data.toList
    | _, _ => none
  | x => srcT H t x K
/-- Elements onto a slice. -/
def appendL (P : Program) (H : Hp) (t : Ty) (e : TypeId) (d : IV) (l' : List (T t)) (K : IV → Option Nat → Hp → Option ρ) : Option ρ := match d with
  | .p (.v (.slice none 0 0)) => chk (fits l'.length (bytesT P e)) (K (.row H.length (sizeTy t)) none (H ++ [.tc t l']))
  | .row b sz => match H[b]? with
    | some (.tc t' l) => if h : t' = t then if sz = sizeTy t then
        chk (fits (l.length + l'.length) (bytesT P e)) (K (.row b sz) (some b) (H.set b (.tc t ((h ▸ l) ++ l')))) else none else none
    | _ => none
  | _ => none
def appendK (P : Program) (H : Hp) (ty : TypeId) (d x : IV) (K : IV → Option Nat → Hp → Option ρ) : Option ρ :=
  match elemT P ty, elTy P ty with
  | some e, some t => if zeroOK P e (sizeTy t) = true then srcA H t x fun l' => appendL P H t e d l' K else none
  | _, _ => none
/-- So many nothings onto a slice: append(s, make([]T, n)...). -/
def appendZ (P : Program) (H : Hp) (ty : TypeId) (d : IV) (n : Int) (K : IV → Option Nat → Hp → Option ρ) : Option ρ :=
  match elemT P ty, elTy P ty with
  | some e, some t => match zeroT P e with
    | some z => if zeroOK P e (sizeTy t) = true then chk (decide (0 ≤ n)) (chk (fits n.toNat (bytesT P e))
        (decT t (z.cells.toList.map .v) fun x r => match r with
          | [] => appendL P H t e d (List.replicate n.toNat x) K
          | _ :: _ => none)) else none
    | none => none
  | _, _ => none
/-- A slice's bounds. -/
def bnd (lo hi : Option Operand) (a b n : Int) (x : Option ρ) : Option ρ := match lo, hi with
  | none, none => x
  | some _, none => chk (decide (0 ≤ a)) (chk (decide (a ≤ n)) x)
  | none, some _ => chk (decide (0 ≤ b)) (chk (decide (b ≤ n)) x)
  | some _, some _ => chk (decide (0 ≤ a)) (chk (decide (a ≤ b)) (chk (decide (b ≤ n)) x))
def sliceK (P : Program) (H : Hp) (ty : TypeId) (x : IV) (lo hi : Option Operand) (t : List IV) (K : IV → Option ρ) : Option ρ :=
  match x with
  | .p (.v (.string s)) => if isStrT P ty then match optBound t lo 0, optBound t hi (slen s : Nat) with
      | some a, some b => bnd lo hi a b (slen s : Nat) (K (.p (.v (.string ⟨⟨(s.data.toList.drop a.toNat).take (b.toNat - a.toNat)⟩⟩))))
      | _, _ => none
    else none
  | .p (.sl q l) => match isSliceT P ty, elemSz P ty, optBound t lo 0, optBound t hi (l.length : Nat) with
      | true, some sz, some a, some b => if sz = sizeTy q then bnd lo hi a b (l.length : Nat)
          (K (.p (.sl q ((l.drop a.toNat).take (b.toNat - a.toNat))))) else none
      | _, _, _, _ => none
  | .row c sz' => match blkLen? H c sz' with
    | some n => match isSliceT P ty, elemSz P ty, optBound t lo 0, optBound t hi (n : Nat) with
      | true, some sz, some a, some b => if sz = sz' then bnd lo hi a b (n : Nat)
          (K (.rw c sz a.toNat (b.toNat - a.toNat))) else none
      | _, _, _, _ => none
    | none => none
  | .rw c sz' off n => match isSliceT P ty, elemSz P ty, optBound t lo 0, optBound t hi (n : Nat) with
      | true, some sz, some a, some b => if sz = sz' then bnd lo hi a b (n : Nat)
          (K (.rw c sz (off + a.toNat) (b.toNat - a.toNat))) else none
      | _, _, _, _ => none
  | .eptr c sz' k off => match P.underlying ty, elemSz P ty, blkLen? H c sz' with
      | some (.array n _), some sz, some m => match optBound t lo 0, optBound t hi (n : Nat) with
        | some a, some b => if sz = sz' ∧ off = 0 ∧ k + n ≤ m then bnd lo hi a b (n : Nat) (K (.rw c sz (k + a.toNat) (b.toNat - a.toNat))) else none
        | _, _ => none
      | _, _, _ => none
  | _ => none
def indexAddrK (P : Program) (H : Hp) (ty : TypeId) (x i : IV) (K : IV → Option ρ) : Option ρ :=
  match i, elemSz P ty with
  | .p (.v (.int _ j)), some sz => match x with
    | .p (.sl q l) => if isSliceT P ty = true ∧ sz = sizeTy q then chk (decide (0 ≤ j)) (getK l j.toNat fun x => K (.p (.rop (cellsT q x)))) else none
    | .row b sz' => match blkLen? H b sz' with
      | some n => if isSliceT P ty = true ∧ sz = sz' then chk (decide (0 ≤ j)) (chk (decide (j < (n : Nat))) (K (.eptr b sz' j.toNat 0))) else none
      | none => none
    | .rw b sz' off n => if isSliceT P ty = true ∧ sz = sz' then chk (decide (0 ≤ j)) (chk (decide (j < (n : Nat))) (K (.eptr b sz' (off + j.toNat) 0))) else none
    | .ptr b off => match P.underlying ty with
      | some (.array len _) => chk (decide (0 ≤ j)) (chk (decide (j < (len : Nat))) (K (.ptr b (off + j.toNat * sz))))
      | _ => none
    | .eptr b sz' k off => match P.underlying ty with
      | some (.array len _) => chk (decide (0 ≤ j)) (chk (decide (j < (len : Nat))) (K (if sz = sz' then .eptr b sz' (k + j.toNat) off else .eptr b sz' k (off + j.toNat * sz))))
      | _ => none
    | _ => none
  | _, _ => none
/-- A constant's bytes, at their own type. -/
def sameK (P : Program) (H : Hp) (src dst : TypeId) (x : IV) (K : IV → Option Nat → Hp → Option ρ) : Option ρ := match x with
  | .row b sz => if src = dst ∧ isSliceT P dst ∧ isU8 P dst then match H[b]? with
      | some (.tc .u8 (_ :: _)) => K (.row b sz) none H
      | _ => none
    else none
  | _ => none
def convertK (P : Program) (H : Hp) (src dst : TypeId) (x : IV) (K : IV → Option Nat → Hp → Option ρ) : Option ρ :=
  match x with
  | .p (.v (.int _ n)) => match P.underlying src, P.underlying dst with
    | some _, some (.int k) => K (.p (.v (.int k (k.wrap n)))) none H
    | some _, some .string => K (.p (.v (.string (Utf8.encode n)))) none H
    | _, _ => none
  | .p (.v (.string s)) => match P.underlying src with
    | some .string => if isStrT P dst then K x none H
      else if isSliceT P dst ∧ isU8 P dst then K (.row H.length 1) none (H ++ [.tc .u8 s.data.toList]) else none
    | _ => none
  | x => if isSliceT P src ∧ isU8 P src ∧ isStrT P dst then srcT H .u8 x fun l => K (.p (.v (.string ⟨⟨l⟩⟩))) none H else sameK P H src dst x K
def newRowK (P : Program) (H : Hp) (ty : TypeId) (n : Nat) (l : List IV) (K : IV → Option Nat → Hp → Option ρ) : Option ρ :=
  match elTy P ty, allP l with
  | some t, some ps => chk (isSliceT P ty) (decRow t n ps fun xs => K (.row H.length (sizeTy t)) none (H ++ [.tc t xs]))
  | _, _ => none
/-- A slice of so many nothings. -/
def makeK (P : Program) (H : Hp) (ty : TypeId) (n : Int) (K : IV → Option Nat → Hp → Option ρ) : Option ρ :=
  match elemT P ty, elTy P ty with
  | some e, some t => match zeroT P e with
    | some z => chk (isSliceT P ty && zeroOK P e (sizeTy t)) (chk (decide (0 ≤ n)) (chk (fits n.toNat (bytesT P e))
        (decT t (z.cells.toList.map .v) fun x r => match r with
          | [] => K (.row H.length (sizeTy t)) none (H ++ [.tc t (List.replicate n.toNat x)])
          | _ :: _ => none)))
    | none => none
  | _, _ => none

/-- An array that is told as a row. -/
def bigArr (P : Program) (e : TypeId) : Option (Nat × Ty) := match P.underlying e with
  | some (.array n _) => if 16 ≤ n then match elTy P e with
      | some q => some (n, q)
      | none => none
    else none
  | _ => none
def newArrK (H : Hp) (n : Nat) (q : Ty) (l : List PV) (K : IV → Option Nat → Hp → Option ρ) : Option ρ :=
  decRow q n l fun xs => K (.eptr H.length (sizeTy q) 0 0) none (H ++ [.tc q xs])

def isIntT (P : Program) (t : TypeId) : Bool := match P.underlying t with | some (.int _) => true | _ => false
def isIfT (P : Program) (t : TypeId) : Bool := match P.underlying t with | some (.interface _) => true | _ => false
def isPtrT (P : Program) (t : TypeId) : Bool := match P.underlying t with | some (.pointer _) => true | _ => false
/-- Is a pointer none? -/
def ptrNil : IV → Option Bool
  | .p (.opt _ x) => some x.isNone
  | .p (.rop _) => some false
  | .ptr _ _ => some false
  | .eptr _ _ _ _ => some false
  | _ => none
def isConstO : Operand → Bool
  | .const _ => true
  | _ => false
/-- One operation; a call of Go code apart. -/
def opK (P : Program) (t : List IV) (H : Hp) (o : Oper) (K : IV → Option Nat → Hp → Option ρ) : Option ρ :=
  match o.op with
  | .move x => K (evI t x) none H
  | .assign x => K (evI t x) none H
  | .pick c a b => match evI t c with
    | .p (.v (.bool true)) => K (evI t a) none H
    | .p (.v (.bool false)) => K (evI t b) none H
    | _ => none
  | .alloc e => match zeroT P e with
    | some z => match bigArr P e with
      | some (n, q) => newArrK H n q (z.cells.toList.map .v) K
      | none => newK H (cellsI (.p (.v z))) K
    | none => none
  | .box _ x => match evI t x with
    | .undef => none
    | y => newK H (cellsI y) K
  | .build ty ps => if noUndef (evParts t ps.toList) then match buildI P ty (evParts t ps.toList) with
      | some l => K (mkAgg l) none H
      | none => none
    else none
  | .buildSlice ty n ps => if noUndef (evParts t ps.toList) then match buildS P ty n (evParts t ps.toList) with
      | some (_, l) => newRowK P H ty n l K
      | none => none
    else none
  | .makeSlice ty n c => match evI t n, evI t c with
    | .p (.v (.int k a)), .p (.v (.int k' b)) => if k = .i64 ∧ k' = .i64 then chk (a == b) (makeK P H ty a K) else none
    | _, _ => none
  | .load ty a => match evI t a with
    | .p (.rop l) => loadP P ty l fun y => K y none H
    | .p (.opt t x) => getO x fun y => loadP P ty (cellsT t y) fun y => K y none H
    | .ptr b off => loadB P H ty b off fun y => K y none H
    | .eptr b sz j off => loadE P H ty b sz j off fun y => K y none H
    | _ => none
  | .store ty a x => match evI t a, sizeT P ty with
    | .ptr b off, some n => storeK H n b off (evI t x) fun H' => K (.p (.v Go.undef)) none H'
    | .eptr b sz j off, some n => storeE H n b sz j off (evI t x) fun H' => K (.p (.v Go.undef)) none H'
    | _, _ => none
  | .nilCheck x => match evI t x with
    | .ptr b off => K (.ptr b off) none H
    | .eptr b sz j off => K (.eptr b sz j off) none H
    | .p (.rop l) => K (.p (.rop l)) none H
    | .p (.opt t x) => getO x fun y => K (.p (.rop (cellsT t y))) none H
    | _ => none
  | .makeFunc f first cap => bif (first.toList.isEmpty && stabL (evL t cap.toList)) then K (.fn f (evL t cap.toList)) none H else none
  | .binOp op ty x y _ => match evI t x, evI t y with
    | .p (.v a), .p (.v b) => binK P op ty a b fun r => K (.p (.v r)) none H
    | .p (.err b), .p (.v .nilIface) => match isIfT P ty && isConstO y, op with
      | true, .eql => K (.p (.v (.bool b))) none H
      | true, .neq => K (.p (.v (.bool !b))) none H
      | _, _ => none
    | u, .p (.v (.pointer none)) => match ptrNil u, isPtrT P ty, op with
      | some b, true, .eql => K (.p (.v (.bool b))) none H
      | some b, true, .neq => K (.p (.v (.bool !b))) none H
      | _, _, _ => none
    | _, _ => none
  | .unOp op _ x => match op, evI t x with
    | .not, .p (.v (.bool b)) => K (.p (.v (.bool !b))) none H
    | .neg, .p (.v (.int k n)) => K (.p (.v (.int k (k.wrap (0 - n))))) none H
    | .xor, .p (.v (.int k n)) => binI .xor k (if k.signed then -1 else k.max) n fun r => K (.p (.v r)) none H
    | _, _ => none
  | .convert src dst x => convertK P H src dst (evI t x) K
  | .slice ty x lo hi none => sliceK P H ty (evI t x) lo hi t fun y => K y none H
  | .fieldAddr s x f => match evI t x, fieldOff P s f with
    | .ptr b off, some d => K (.ptr b (off + d)) none H
    | .eptr b sz j off, some d => K (.eptr b sz j (off + d)) none H
    | .p (.rop l), some d => K (.p (.rop (l.drop d))) none H
    | _, _ => none
  | .field s x f => match evI t x, fieldOff P s f, P.underlying s with
    | y, some d, some (.struct fs) => match fs[f]? with
      | some fd => if isAggI y = true then loadG P fd.type ((cellsI y).drop d) fun y => K y none H else none
      | none => none
    | _, _, _ => none
  | .indexAddr ty x i => indexAddrK P H ty (evI t x) (evI t i) fun y => K y none H
  | .index ty x i => match evI t x, evI t i with
    | .p (.v (.string s)), .p (.v (.int _ j)) => if isStrT P ty then chk (decide (0 ≤ j)) (chk (decide (j < (slen s : Nat))) (K (.p (.v (.int .u8 (bL s.data.toList j)))) none H)) else none
    | _, _ => none
  | .range ty x => match evI t x with
    | .p (.v (.string s)) => if isStrT P ty then K (.it H.length) none (H ++ [.iter s 0]) else none
    | _ => none
  | .next it true => match evI t it with
    | .it b => match H[b]? with
      | some (.iter s pos) => bif decide (pos < slen s)
          then K (.p (.v (.tuple #[.bool true, .int .i64 pos, .int .i32 (Utf8.decode s pos).1]))) none (H.set b (.iter s (pos + (Utf8.decode s pos).2)))
          else K (.p (.v (.tuple #[.bool false]))) none H
      | _ => none
    | _ => none
  | .extract x i => match evI t x with
    | .p y => match y with
      | .v (.tuple vs) => match vs.toList[i]? with | some z => K (.p (.v z)) none H | none => none
      | .tup l => match l[i]? with | some z => K (.p z) none H | none => none
      | _ => none
    | .tup l => match l[i]? with | some z => K z none H | none => none
    | _ => none
  | .call { callee := .builtin .len, args, argTypes } => match args.toList, argTypes.toList with
    | [x], [ty] => if isStrT P ty then match evI t x with
        | .p (.v (.string s)) => K (.p (.v (.int .i64 (slen s : Nat)))) none H
        | _ => none
      else if isSliceT P ty then match lenI H (evI t x) with
        | some n => K (.p (.v (.int .i64 n))) none H
        | none => none
      else none
    | _, _ => none
  | .call { callee := .builtin .append, args, argTypes } => match args.toList, argTypes.toList with
    | [d, x], [ty, ty2] => if isSliceT P ty then match evI t x with
        | .p (.v (.string s)) => if isStrT P ty2 then appendK P H ty (evI t d) (.p (.v (.string s))) K else none
        | .p (.v (.int .i64 n)) => if isIntT P ty2 then appendZ P H ty (evI t d) n K else none
        | y => if isSliceT P ty2 then appendK P H ty (evI t d) y K else none
      else none
    | _, _ => none
  | .call { callee := .builtin .min, args, .. } => match args.toList with
    | [x, y] => match evI t x, evI t y with
      | .p (.v (.int k a)), .p (.v (.int _ b)) => K (.p (.v (.int k (if b < a then b else a)))) none H
      | _, _ => none
    | _ => none
  | .call { callee := .builtin .max, args, .. } => match args.toList with
    | [x, y] => match evI t x, evI t y with
      | .p (.v (.int k a)), .p (.v (.int _ b)) => K (.p (.v (.int k (if a < b then b else a)))) none H
      | _, _ => none
    | _ => none
  | _ => none

/-- What a call asks. -/
def calleeOf (t : List IV) (c : Call) : Option (FuncId × List IV) := match c.callee with
  | .value f => match evI t f with
    | .p (.v (.func (.func f) first cap)) => some (f, first.toList.map (fun x => .p (.v x)) ++ evL t c.args.toList ++ cap.toList.map (fun x => .p (.v x)))
    | .fn (.func f) cap => some (f, evL t c.args.toList ++ cap)
    | _ => none
  | _ => none
def outI (l : List IV) : IV := match l with
  | [x] => x
  | l => mkTup l
def okCall (P : Program) (f : FuncId) : Option Func := match P.funcs[f]? with
  | some fn => if fn.body.isSome && fn.name != "runtime.NumGoroutine" then some fn else none
  | none => none
/-- No slice in it that turns no more. -/
def flatTy : Ty → Bool
  | .sl _ => false
  | .opt _ => false
  | .pair a b => flatTy a && flatTy b
  | _ => true
def flatA : SA → Bool
  | .ty t => flatTy t
  | _ => true
def flatS : SS → Bool
  | .one a => flatA a
  | .val t => flatTy t
  | .agg l => l.all flatA
def flatB : BS → Bool
  | .tc t => flatTy t
  | .cells l => l.all flatA
  | _ => true
def flatSp (s : Spec) : Bool := s.ss.all flatS && s.bs.all flatB
def flatP : PV → Bool
  | .v _ => true
  | .err _ => true
  | _ => false
def flatPL : List PV → Bool
  | [] => true
  | x :: l => flatP x && flatPL l
def flat0 : IV → Bool
  | .p x => flatP x
  | .row _ _ => true
  | .ptr _ _ => true
  | .undef => true
  | _ => false
def flat0L : List IV → Bool
  | [] => true
  | x :: l => flat0 x && flat0L l
def flatI : IV → Bool
  | .agg l => flat0L l
  | x => flat0 x
def flatIL : List IV → Bool
  | [] => true
  | x :: l => flatI x && flatIL l
def flatBk : Blk → Bool
  | .pc l => flatPL l
  | .gc l => flat0L l
  | .tc t _ => flatTy t
  | _ => true
def flatH : Hp → Bool
  | [] => true
  | x :: l => flatBk x && flatH l
/-- Blocks behind others: their handles' numbers go up. -/
def shA (n : Nat) : IV → IV
  | .row b sz => .row (n + b) sz
  | .rw b sz a m => .rw (n + b) sz a m
  | .ptr b off => .ptr (n + b) off
  | .eptr b sz j off => .eptr (n + b) sz j off
  | .it b => .it (n + b)
  | .p x => .p x
  | _ => .undef
/-- An argument, as data of its type. -/
def argP (P : Program) (t : TypeId) (ps : List PV) : PV := match isAggT P t with
  | true => mkAggP ps
  | false => match ps with
    | [x] => x
    | _ => .v Go.undef
def isAggX : PV → Bool
  | .v (.agg _) => true
  | .agg _ => true
  | _ => false
def fixA (P : Program) : List TypeId → List PV → (List PV → Option ρ) → Option ρ
  | [], xs, K => K xs
  | t :: ts, x :: xs, K => match tyT P 8 t with
    | some q => if isAggT P t = isAggX x then decT q (cellsP x) fun y r => match r with
        | [] => fixA P ts xs fun l => K (argP P t (cellsT q y) :: l)
        | _ :: _ => none
      else none
    | none => fixA P ts xs fun l => K (x :: l)
  | _ :: _, [], _ => none
def callI (E : Env) (m : Mach) (f : FuncId) (args : List IV) (H : Hp) (K : IV → Hp → Option ρ) : Option ρ :=
  match okCall E.P f with
  | some fn => match lendL H args with
    | some ps => fixA E.P fn.params.toList ps fun ps => obind (m.call f (E.res f) ps) fun x => chk (allIsP args || (flatIL (rebT (E.res f) x) && flatH (rebH (E.res f) x)))
        (K (outI (killL (mapI (shA H.length)) (rebT (E.res f) x))) (H ++ mapH (shA H.length) (rebH (E.res f) x)))
    | none => none
  | none => none
def putI (t : List IV) (dst : Option Tmp) (x : IV) : List IV := match dst with
  | some d => t.set d x
  | none => t
def killT (kl : Option Nat) (t : List IV) : List IV := match kl with
  | some b => killL (mapI (kill b)) t
  | none => t
def killHp (kl : Option Nat) (H : Hp) : Hp := match kl with
  | some b => mapH (kill b) H
  | none => H
def isCallV : Op → Bool
  | .call { callee := .value _, .. } => true
  | _ => false
/-- Rows that turn no more from here on. -/
def frzV (H : Hp) (bs : List Nat) : IV → IV
  | .row b sz => if bs.contains b then match H[b]? with
      | some (.tc t l) => if sz = sizeTy t then .p (.sl t l) else .undef
      | _ => .undef
    else .row b sz
  | .rw b sz a n => if bs.contains b then match H[b]? with
      | some (.tc t l) => if sz = sizeTy t then .p (.sl t ((l.drop a).take n)) else .undef
      | _ => .undef
    else .rw b sz a n
  | .eptr b sz j off => if bs.contains b then .undef else .eptr b sz j off
  | .agg _ => .undef
  | .tup _ => .undef
  | x => x
def rowsL : List IV → List Nat
  | [] => []
  | .row b _ :: l => b :: rowsL l
  | .rw b _ _ _ :: l => b :: rowsL l
  | _ :: l => rowsL l
def deadH (bs : List Nat) : Nat → Hp → Hp
  | _, [] => []
  | i, x :: l => (if bs.contains i then .dead else x) :: deadH bs (i + 1) l
/-- A call, where rows that are handed on turn no more, if the answer may lead into them. -/
def callS (E : Env) (m : Mach) (g : Operand) (args : Array Operand) (tys : Array TypeId) (t : List IV) (H : Hp) (K : List IV → IV → Hp → Option ρ) : Option ρ :=
  match calleeOf t { callee := .value g, args, argTypes := tys } with
  | some (f, xs) => if E.here f then (match okCall E.P f with
      | some _ => m.inl f xs H ρ fun l H' => K (killL (mapI stabI) t) (outI l) H'
      | none => none)
    else if allIsP xs || flatSp (E.res f) || E.strict f then callI E m f xs H fun r H' => K t r H'
    else match calleeOf (killL (mapI (frzV H (rowsL xs))) t) { callee := .value g, args, argTypes := tys } with
      | some (f', ys) => callI E m f' ys (deadH (rowsL xs) 0 (mapH (frzV H (rowsL xs)) H)) fun r H' => K (killL (mapI (frzV H (rowsL xs))) t) r H'
      | none => none
  | none => none
/-- An own row, cut at its end. -/
def truncK (P : Program) (t : List IV) (H : Hp) (ty : TypeId) (b sz : Nat) (hi : Operand) (K : IV → Option Nat → Hp → Option ρ) : Option ρ := match H[b]?, evI t hi with
  | some (.tc q l), .p (.v (.int _ n)) => if isSliceT P ty = true ∧ elemSz P ty = some sz ∧ sz = sizeTy q then chk (decide (0 ≤ n)) (chk (decide (n ≤ (l.length : Nat))) (K (.row b sz) (some b) (H.set b (.tc q (l.take n.toNat))))) else none
  | _, _ => none
def cutO (E : Env) (t : List IV) (o : Oper) : Option (TypeId × Nat × Nat × Operand) := match o.op with
  | .slice ty x none (some hi) none => bif E.cutT ty then (match evI t x with
    | .row b sz => some (ty, b, sz, hi)
    | _ => none) else none
  | _ => none
/-- One operation that is to be carried out. -/
def stepK (E : Env) (m : Mach) (t : List IV) (H : Hp) (o : Oper) (K : KN ρ) : Option ρ :=
  match o.op with
  | .call { callee := .value g, args, argTypes } => callS E m g args argTypes t H fun t r H' => K (putI t o.dst r) H'
  | _ => match cutO E t o with
    | some (ty, b, sz, hi) => truncK E.P t H ty b sz hi fun r kl H' => K (putI (killT kl t) o.dst r) (killHp kl H')
    | none => opK E.P t H o fun r kl H' => K (putI (killT kl t) o.dst r) (killHp kl H')
def dstOf (ops : List Oper) (j : Nat) : Option Tmp := match ops[j]? with
  | some o => o.dst
  | none => none
/-- A region's operations, in the text's order. -/
def opsK (E : Env) (m : Mach) (ops : List Oper) : List Oper → List IV → Hp → KN ρ → Option ρ
  | [], t, H, K => K t H
  | o :: r, t, H, K => match o.guard with
    | none => stepK E m t H o fun t H => opsK E m ops r t H K
    | some (j, want) => match dstOf ops j with
      | some d => match t.getD d .undef with
        | .p (.v (.bool b)) => match want with
          | true => bif b then stepK E m (t.set d (.p (.v (.bool true)))) H o fun t H => opsK E m ops r t H K
              else opsK E m ops r (putI (t.set d (.p (.v (.bool false)))) o.dst (.p (.v Go.undef))) H K
          | false => bif b then opsK E m ops r (putI (t.set d (.p (.v (.bool true)))) o.dst (.p (.v Go.undef))) H K
              else stepK E m (t.set d (.p (.v (.bool false)))) H o fun t H => opsK E m ops r t H K
        | .p (.v (.tuple ⟨[]⟩)) => opsK E m ops r (putI t o.dst (.p (.v Go.undef))) H K
        | _ => none
      | none => none
end
/-- A region that draws its order: what may come up in either order is quiet and apart. -/
def precE (r : Nat → Bool) (i : Nat) : List Edge → Bool
  | [] => false
  | e :: l => (Region.binds .any e && (e.on == i || r e.on)) || precE r i l
def precB (ops : List Oper) (i : Nat) : Nat → Nat → Bool
  | 0, _ => false
  | n + 1, j => match ops[j]? with
    | some o => precE (precB ops i n) i o.after.toList
    | none => false
def isQuiet (E : Env) (o : Oper) : Bool := match o.op with
  | .move _ => true
  | .assign _ => true
  | .pick _ _ _ => true
  | .build _ _ => true
  | .load _ _ => true
  | .nilCheck _ => true
  | .binOp _ _ _ _ _ => true
  | .unOp _ _ _ => true
  | .convert _ d _ => !isSliceT E.P d
  | .makeFunc _ _ _ => true
  | .slice ty _ _ _ _ => !E.cutT ty
  | .fieldAddr _ _ _ => true
  | .field _ _ _ => true
  | .indexAddr _ _ _ => true
  | .index _ _ _ => true
  | .extract _ _ => true
  | .call { callee := .builtin .len, .. } => true
  | .call { callee := .builtin .min, .. } => true
  | .call { callee := .builtin .max, .. } => true
  | .call { callee := .value (.func f), .. } => (flatSp (E.res f) || E.strict f) && (E.res f).bs.isEmpty && !E.here f
  | _ => false
/-- What makes a block and asks nothing else of the blocks. -/
def isAlloc (o : Oper) : Bool := match o.op with
  | .alloc _ => true
  | .box _ _ => true
  | .buildSlice _ _ _ => true
  | _ => false
/-- What asks nothing of the blocks. -/
def isFree (o : Oper) : Bool := match o.op with
  | .move _ => true
  | .assign _ => true
  | .pick _ _ _ => true
  | .nilCheck _ => true
  | .binOp _ _ _ _ _ => true
  | .unOp _ _ _ => true
  | .fieldAddr _ _ _ => true
  | .index _ _ _ => true
  | .extract _ _ => true
  | _ => false
/-- No handle in it. -/
def pureA : SA → Bool
  | .ty _ => true
  | .drop => true
  | _ => false
def pureS : SS → Bool
  | .one a => pureA a
  | .val _ => true
  | .agg l => l.all pureA
def pureSp (s : Spec) : Bool := s.bs.isEmpty && s.ss.all pureS
/-- What answers the same where there are more blocks. -/
def isMono (E : Env) (o : Oper) : Bool := match o.op with
  | .load _ _ => true
  | .build _ _ => true
  | .call { callee := .value (.func f), .. } => (flatSp (E.res f) || E.strict f) && pureSp (E.res f) && !E.here f
  | _ => isFree o
def pairOK (E : Env) (oi oj : Oper) : Bool := (isQuiet E oi && isQuiet E oj) || (isMono E oi && isAlloc oj) || (isAlloc oi && isFree oj)
def regJ (E : Env) (ops : List Oper) (n : Nat) (j : Nat) (oj : Oper) : Nat → List Oper → Bool
  | _, [] => true
  | i, oi :: l => (if i < j then precB ops i n j || (pairOK E oi oj && oi.apart ops.toArray oj) else true) && regJ E ops n j oj (i + 1) l
def edgesOK (j : Nat) : List Edge → Bool
  | [] => true
  | e :: l => (!Region.binds .any e || decide (e.on < j)) && edgesOK j l
def regA (E : Env) (ops : List Oper) (n : Nat) : Nat → List Oper → Bool
  | _, [] => true
  | j, oj :: l => edgesOK j oj.after.toList && regJ E ops n j oj 0 ops && regA E ops n (j + 1) l
def regOK (E : Env) (ops : Array Oper) : Bool := regA E ops.toList ops.toList.length 0 ops.toList
def codeOK (E : Env) (f : FuncId) : Code → Bool
  | .region _ ops draw => !draw || E.plan f || regOK E ops
  | .seq a b => codeOK E f a && codeOK E f b
  | .cond _ a b => codeOK E f a && codeOK E f b
  | .block _ a => codeOK E f a
  | .loop a => codeOK E f a
  | _ => true
/-- A slot whose bool is known by now. -/
def knowB (t : List IV) (x : Operand) (b : Bool) : List IV := match x with
  | .tmp d => t.set d (.p (.v (.bool b)))
  | _ => t
/-- A function's results. -/
def resK {ρ : Type} (P : Program) (t : List IV) (H : Hp) : List ResultVar → (List IV → Option ρ) → Option ρ
  | [], K => K []
  | .tmp i :: l, K => resK P t H l fun r => K (evI t (.tmp i) :: r)
  | .cell a ty :: l, K => match evI t (.tmp a) with
    | .ptr b off => loadB P H ty b off fun y => resK P t H l fun r => K (y :: r)
    | _ => none
def fnOf (P : Program) (f : FuncId) : Func := (P.funcs[f]?).getD default
def endK {ρ : Type} (P : Program) (f : FuncId) (kr : KN ρ) : KN ρ := fun t H => resK P t H (fnOf P f).results.toList fun l => kr l H
/-- Rows that boxes lead to. -/
def rowsH : Hp → List Nat
  | [] => []
  | .gc l :: r => rowsL l ++ rowsH r
  | _ :: r => rowsH r
/-- A call that may lead into what it is lent, unless that turns no more. -/
def isHard (E : Env) (o : Oper) : Bool := match o.op with
  | .call { callee := .value (.func f), .. } => !flatSp (E.res f) && E.strict f
  | _ => false
def hardL (E : Env) : List Oper → Bool
  | [] => false
  | o :: l => isHard E o || hardL E l
/-- Boxes of values turn no more. -/
def pcs : Nat → Hp → List Nat
  | _, [] => []
  | n, .pc _ :: l => n :: pcs (n + 1) l
  | n, _ :: l => pcs (n + 1) l
def frzB (H : Hp) (bs : List Nat) : IV → IV
  | .ptr b off => if bs.contains b then match H[b]? with
      | some (.pc l) => .p (.rop (l.drop off))
      | _ => .undef
    else .ptr b off
  | .p x => .p x
  | .row b sz => if bs.contains b then .undef else .row b sz
  | .rw b sz o n => if bs.contains b then .undef else .rw b sz o n
  | .eptr b sz j o => if bs.contains b then .undef else .eptr b sz j o
  | .it b => if bs.contains b then .undef else .it b
  | _ => .undef
/-- What may be taken first in a region. -/
def earlyO (o : Oper) : Bool := o.guard.isNone && match o.op with
  | .move _ => true
  | .assign _ => true
  | .load _ _ => true
  | .indexAddr _ _ _ => true
  | _ => false
def planE (ops : Array Oper) : List Nat → Array Bool → List Nat × Array Bool
  | [], ls => ([], ls)
  | j :: r, ls => match ops[j]? with
    | some o => bif earlyO o && (Region.ready .any ops ls).contains j && Region.free .any ops ls j then (j :: (planE ops r (ls.setIfInBounds j true)).1, (planE ops r (ls.setIfInBounds j true)).2) else planE ops r ls
    | none => planE ops r ls
def planR (ops : Array Oper) : Nat → Array Bool → Option (List Nat)
  | 0, ls => match Region.ready .any ops ls with
    | [] => some []
    | _ => none
  | n + 1, ls => match Region.ready .any ops ls with
    | [] => some []
    | [i] => match planR ops n (ls.setIfInBounds i true) with
      | some r => some (i :: r)
      | none => none
    | _ => none
def planO (ops : Array Oper) : Option (List Nat × List Nat) := match planE ops (List.range ops.size) (Array.replicate ops.size false) with
  | (e, ls) => match planR ops ops.size ls with
    | some r => bif Region.noSelect ops && decide (e.length + r.length ≤ ops.size) then some (e, r) else none
    | none => none
def opsAt (ops : Array Oper) : List Nat → List Oper
  | [] => []
  | j :: r => match ops[j]? with
    | some o => o :: opsAt ops r
    | none => opsAt ops r
/-- What an operation yields that asks nothing of the blocks. -/
def earlyV (P : Program) (t : List IV) (o : Oper) : Option PV := match o.op with
  | .move x => match evI t x with
    | .p y => some y
    | _ => none
  | .assign x => match evI t x with
    | .p y => some y
    | _ => none
  | .load ty a => match evI t a with
    | .p (.rop l) => loadP P ty l fun y => match y with
      | .p z => some z
      | _ => none
    | _ => none
  | .indexAddr ty x i => match evI t x, evI t i with
    | .p (.rop l), .p (.v (.int _ j)) => match P.underlying ty, elemSz P ty with
      | some (.array n _), some sz => if 0 ≤ j ∧ j < (n : Nat) then some (.rop (l.drop (j.toNat * sz))) else none
      | _, _ => none
    | _, _ => none
  | _ => none
/-- Operations that ask nothing of the blocks, one behind the other. -/
def earlyK {ρ : Type} (P : Program) : List Oper → List IV → (List IV → Option ρ) → Option ρ
  | [], t, K => K t
  | o :: r, t, K => match earlyV P t o with
    | some y => earlyK P r (putI t o.dst (.p y)) K
    | none => none
def planK {ρ : Type} (E : Env) (m : Mach) (ops : Array Oper) (t : List IV) (H : Hp) (kn : KN ρ) : Option ρ := match planO ops with
  | some (e, r) => earlyK E.P (opsAt ops e) (killL (mapI (frzB H (pcs 0 H))) t) fun t => opsK E m ops.toList (opsAt ops r) t (deadH (pcs 0 H) 0 (mapH (frzB H (pcs 0 H)) H)) kn
  | none => none
/-- A piece of code, and what follows. -/
def exec (E : Env) (m : Mach) (f : FuncId) : Code → HT → List IV → Hp → (ρ : Type) → KN ρ → KX ρ → KN ρ → Option ρ
  | .skip, _, t, H, _, kn, _, _ => kn t H
  | .label _, _, t, H, _, kn, _, _ => kn t H
  | .region _ ops draw, _, t, H, _, kn, _, _ => match draw && (E.plan f && !regOK E ops), hardL E ops.toList with
    | true, _ => planK E m ops t H kn
    | false, true => opsK E m ops.toList ops.toList (killL (mapI (frzV H (rowsL t ++ rowsH H))) t) (deadH (rowsL t ++ rowsH H) 0 (mapH (frzV H (rowsL t ++ rowsH H)) H)) kn
    | false, false => opsK E m ops.toList ops.toList t H kn
  | .seq a b, h, t, H, _, kn, kx, kr => wrapC h (fnOf E.P f).ntmps t H (m.piece f (.seq a b) h) (fun t H σ kn kx kr => exec E m f a h.l t H σ (fun t H => exec E m f b h.r t H σ kn kx kr) kx kr) kn kx kr
  | .cond c a b, h, t, H, _, kn, kx, kr => wrapC h (fnOf E.P f).ntmps t H (m.piece f (.cond c a b) h) (fun t H σ kn kx kr => match evI t c with
    | .p (.v (.bool v)) => bif v then exec E m f a h.l (knowB t c true) H σ kn kx kr else exec E m f b h.r (knowB t c false) H σ kn kx kr
    | _ => none) kn kx kr
  | .block id a, h, t, H, _, kn, kx, kr => wrapC h (fnOf E.P f).ntmps t H (m.piece f (.block id a) h) (fun t H σ kn kx kr => exec E m f a h.l t H σ kn (fun j t H => if j = id then kn t H else kx j t H) kr) kn kx kr
  | .loop a, h, t, H, _, kn, kx, kr => match h with
    | .loop hd cs ha => decSpec hd t H fun x => obind (m.loop f a ha hd cs x) fun o => contK cs (fnOf E.P f).ntmps o kn kx kr
    | _ => m.go f a t H _ kx kr
  | .exit id, _, t, H, _, _, kx, _ => kx id t H
  | .ret, _, t, H, _, _, _, kr => endK E.P f kr t H
  | _, _, _, _, _, _, _, _ => none
/-- What a function answers. -/
def retK (s : Spec) (l : List IV) (H : Hp) : Option (Holes s) := if l.length = s.ss.length then decSpec s l H some else none
/-- A function gone through in place. -/
def inlI (E : Env) (m : Mach) (f : FuncId) (args : List IV) (H : Hp) (ρ : Type) (K : KN ρ) : Option ρ := match okCall E.P f with
  | some fn => match fn.body with
    | some c => if args.length ≤ fn.ntmps ∧ E.ok f = true ∧ E.plan f = false then exec E m f c .no (padT fn.ntmps args) H ρ (endK E.P f K) (fun _ _ _ => none) K else none
    | none => none
  | none => none
def inlD (E : Env) (m : Mach) : Nat → FuncId → List IV → Hp → (ρ : Type) → KN ρ → Option ρ
  | 0 => fun _ _ _ _ _ => none
  | d + 1 => inlI E ⟨m.call, m.loop, m.go, m.piece, inlD E m d⟩
/-- A machine that goes through functions in place, so deep. -/
def Mach.deep (E : Env) (m : Mach) : Mach := ⟨m.call, m.loop, m.go, m.piece, inlD E m 4⟩
def isOne (ts : List TypeId) : Bool := match ts with
  | [_] => true
  | _ => false
def tupP : PV → Option (List PV)
  | .v (.tuple vs) => some (vs.toList.map .v)
  | .tup l => some l
  | _ => none
def resIn (ts : List TypeId) (p : PV) : Option (List PV) := match isOne ts with
  | true => some [p]
  | false => tupP p
def bodyI (E : Env) (m : Mach) (f : FuncId) (s : Spec) (args : List PV) : Option (Holes s) :=
  match okCall E.P f with
  | some fn => match E.intr f with
    | some g => match g args with
      | some p => match resIn fn.resultTypes.toList p with
        | some xs => match (E.mine f && isOne fn.resultTypes.toList), xs with
          | true, [.sl t l] => retK s [.row 0 (sizeTy t)] [.tc t l]
          | _, _ => if (isOne fn.resultTypes.toList || decide (xs.length ≠ 1)) = true then retK s (xs.map .p) [] else none
        | none => none
      | none => none
    | none => match fn.body with
      | some c => if args.length ≤ fn.ntmps ∧ E.ok f = true then
          exec E (m.deep E) f c (E.hint f) (padT fn.ntmps (args.map .p)) [] (Holes s) (endK E.P f (retK s)) (fun _ _ _ => none) (retK s)
        else none
      | none => none
  | none => none
def loopI (E : Env) (m : Mach) (f : FuncId) (a : Code) (h : HT) (hd : Spec) (cs : Cut) (x : Holes hd) : Option (Outs cs) :=
  exec E (m.deep E) f a h (padT (fnOf E.P f).ntmps (rebT hd x)) (rebH hd x) (Outs cs) (fun t H => decSpec hd t H fun y => m.loop f a h hd cs y)
    (fun j t H => injK cs (.ext j) t H some) (fun l H => injR cs l H some)
/-- A part of a code, and of what is told of it. -/
def subC : Code → List Bool → Code
  | c, [] => c
  | .seq a _, false :: p => subC a p
  | .seq _ b, true :: p => subC b p
  | .cond _ a _, false :: p => subC a p
  | .cond _ _ b, true :: p => subC b p
  | .block _ a, _ :: p => subC a p
  | .loop a, _ :: p => subC a p
  | _, _ => .skip
def subH : HT → List Bool → HT
  | h, [] => h
  | .node _ a _, false :: p => subH a p
  | .node _ _ b, true :: p => subH b p
  | .loop _ _ a, _ :: p => subH a p
  | .no, _ => .no
def codeOf (E : Env) (f : FuncId) (p : List Bool) : Code := subC ((fnOf E.P f).body.getD .skip) p
/-- A piece by itself: out of its variables. -/
def pieceV (E : Env) (m : Mach) (f : FuncId) (p : List Bool) (ins : Spec) (cs : Cut) (x : Holes ins) : Option (Outs cs) :=
  exec E (m.deep E) f (codeOf E f p) (subH (E.hint f) p).bare (padT (fnOf E.P f).ntmps (rebT ins x)) (rebH ins x) (Outs cs) (fun t H => injK cs .nrm t H some) (fun j t H => injK cs (.ext j) t H some) (fun l H => injR cs l H some)
def loopV (E : Env) (m : Mach) (f : FuncId) (p : List Bool) (hd : Spec) (cs : Cut) (x : Holes hd) : Option (Outs cs) := m.loop f (codeOf E f p) (subH (E.hint f) p) hd cs x
def loopB (E : Env) (m : Mach) (f : FuncId) (p : List Bool) (hd : Spec) (cs : Cut) (x : Holes hd) : Option (Outs cs) := loopI E m f (codeOf E f p) (subH (E.hint f) p) hd cs x
/-- A piece by itself, as the machine has it. -/
def pieceI (E : Env) (m : Mach) (f : FuncId) (c : Code) (h : HT) (ins : Spec) (cs : Cut) (x : Holes ins) : Option (Outs cs) :=
  exec E (m.deep E) f c h.bare (padT (fnOf E.P f).ntmps (rebT ins x)) (rebH ins x) (Outs cs) (fun t H => injK cs .nrm t H some) (fun j t H => injK cs (.ext j) t H some) (fun l H => injR cs l H some)
def pieceW (E : Env) (m : Mach) (f : FuncId) (p : List Bool) (ins : Spec) (cs : Cut) (x : Holes ins) : Option (Outs cs) := m.piece f (codeOf E f p) (subH (E.hint f) p) ins cs x
/-- A round of a loop, and the next ones. -/
def goI (E : Env) (m : Mach) (f : FuncId) (a : Code) (t : List IV) (H : Hp) (ρ : Type) (kx : KX ρ) (kr : KN ρ) : Option ρ :=
  exec E (m.deep E) f a .no t H ρ (fun t H => m.go f a t H ρ kx kr) kx kr
def mach (E : Env) : Nat → Mach
  | 0 => ⟨fun _ _ _ => none, fun _ _ _ _ _ _ => none, fun _ _ _ _ _ _ _ => none, fun _ _ _ _ _ _ => none, fun _ _ _ _ _ => none⟩
  | k + 1 => ⟨bodyI E (mach E k), loopI E (mach E k), goI E (mach E k), pieceI E (mach E k), fun _ _ _ _ _ => none⟩
end Go.Proofs.YtfaofikhabccoaaGreatDoor.Jv
