/- A reckoner over the program's own operations: what a piece of code comes to, in plain values. Definitions alone. No conditions. -/
import Derived.Orders
import Derived.WalkKit
namespace Go.Proofs.Ytonbbaimkpjcfaa.Ev
open Go

/-- A value without places: what it holds is written out. -/
inductive PV where
  | int (k : IntKind) (n : Int)
  | bool (b : Bool)
  | str (s : ByteArray)
  | nilsl
  | nilptr
  | sl (sz : Nat) (els : List PV)
  | agg (cs : List PV)

instance : Inhabited PV := ⟨.nilsl⟩

def PV.cells : PV → List PV
  | .agg cs => cs
  | v => [v]

/-- A value in a slot: plain, or it names things by number. -/
inductive AV where
  | p (fr : Bool) (v : PV)
  | rowf (h : Nat)
  | row (h off n : Nat)
  | ptr (h off : Nat)
  | eptr (fr : Bool) (cs : List PV)
  | rptr (h i off : Nat)
  | func (f : FuncId) (first caps : List AV)
  | agg (cs : List AV)
  | tuple (vs : List AV)

/-- A cell of a row that owns lists: flat, a list of its own, one that has a number by now, or one that is forgotten. -/
inductive TC where
  | fl (v : PV)
  | ow (els : List PV)
  | ref (h : Nat)
  | dead
/-- A thing with a number. -/
inductive Ob where
  | box (cs : List AV)
  | row (e : TypeId) (sz : Nat) (fr fz : Bool) (els : List PV)
  | tree (e : TypeId) (sz : Nat) (ie : TypeId) (els : List (List TC))
  | gone

abbrev Env := Nat → Option AV
abbrev Hp := Nat → Option Ob

def look {α : Type _} : List (Nat × α) → Nat → Option α
  | [], _ => none
  | (i, v) :: r, k => match Nat.beq i k with
    | true => some v
    | false => look r k

/-- What is known of a type. -/
inductive TK where
  | int (k : IntKind)
  | bool
  | str
  | slice (e : TypeId)
  | ptr (e : TypeId)
  | struct (fs : List (Nat × Nat × Bool))
  | arr (n : Nat) (e : TypeId)
  | func
structure TD where
  k : TK
  size : Nat
  bytes : Nat
  zero : List PV
  /-- The cells that an equality looks at, if it is one of flat cells. -/
  eq : List (Nat × TK)

def TD.isAgg (d : TD) : Bool := match d.k with
  | .struct _ => true
  | .arr _ _ => true
  | _ => false

abbrev Tab := List (TypeId × TD)

/-- What a call of a function comes to: a family of answers. -/
structure Ctr where
  Ix : Type
  k : Nat
  args : Ix → List AV
  heap : Ix → List (Nat × Ob)
  pre : Ix → Prop
  res : Ix → AV
  heap' : Ix → List (Nat × Ob)

/-- What one operation comes to. -/
inductive Step : Type 1 where
  | bad
  | ok (c : List Prop) (v : Option AV) (rd : List Nat) (ups : List (Nat × Ob))
  | dem (c : Bool → Prop) (rd : List Nat)
  | call (Ix : Type) (r : Ix → Option (List Prop × AV × List Nat × List (Nat × Ob)))

def allP : List Prop → Prop
  | [] => True
  | [a] => a
  | a :: r => a ∧ allP r

def bv (b : UInt8) : PV := .int .u8 b.toNat
def bl (l : List UInt8) : List PV := l.map bv
def strEls (s : ByteArray) : List PV := s.data.toList.map bv
def PV.toByte : PV → UInt8
  | .int _ n => UInt8.ofNat n.toNat
  | _ => 0
def elsStr (els : List PV) : ByteArray := ⟨(els.map PV.toByte).toArray⟩
/-- It names no memory. -/
def PV.flatB : PV → Bool
  | .int _ _ => true
  | .bool _ => true
  | .str _ => true
  | _ => false
def PV.isFlat (v : PV) : Prop := ∀ c ∈ v.cells, c.flatB = true
def PV.isByte : PV → Prop
  | .int .u8 _ => True
  | _ => False

/-- A number in a value. -/
def constPV : Value → Option PV
  | .int k n => some (.int k n)
  | .bool b => some (.bool b)
  | .string s => some (.str s)
  | .slice none 0 0 => some .nilsl
  | .pointer none => some .nilptr
  | _ => none
def constPVs : List Value → Option (List PV)
  | [] => some []
  | v :: r => match constPV v, constPVs r with
    | some x, some y => some (x :: y)
    | _, _ => none
def constAV : Value → Option AV
  | .agg cs => match constPVs cs.toList with
    | some l => some (.agg (l.map (AV.p true)))
    | none => none
  | .func (.func f) a b => match a.toList, b.toList with
    | [], [] => some (.func f [] [])
    | _, _ => none
  | v => match constPV v with
    | some x => some (.p true x)
    | none => none

def evalR (e : Env) : Operand → Option AV
  | .tmp t => e t
  | .const v => constAV v
  | .func f => some (.func f [] [])
  | .global _ => none

def evalRs (e : Env) : List Operand → Option (List AV)
  | [] => some []
  | x :: r => match evalR e x, evalRs e r with
    | some a, some b => some (a :: b)
    | _, _ => none

/-- A row's elements that a slice of it shows. -/
def cutEls (off n : Nat) (els : List PV) : List PV := (els.drop off).take n

/-- A value as one without places: (is it apart, the value, the rows that it reads). -/
def viewPV (H : Hp) (k0 : Nat) : AV → Option (Bool × PV × List Nat)
  | .p fr v => some (fr, v, [])
  | .rowf h => match H h with
    | some (.row _ sz fr _ els) => some (fr && Nat.ble k0 h, .sl sz els, [h])
    | _ => none
  | .row h off n => match H h with
    | some (.row _ sz fr _ els) => some (fr && Nat.ble k0 h, .sl sz (cutEls off n els), [h])
    | _ => none
  | _ => none
def viewPVs (H : Hp) (k0 : Nat) : List AV → Option (Bool × List PV × List Nat)
  | [] => some (true, [], [])
  | x :: r => match viewPV H k0 x, viewPVs H k0 r with
    | some (f, v, l), some (g, vs, m) => some (f && g, v :: vs, l ++ m)
    | _, _ => none
/-- An element: of one cell, or an aggregate. -/
def viewEl (H : Hp) (k0 : Nat) : AV → Option (Bool × PV × List Nat)
  | .agg cs => match viewPVs H k0 cs with
    | some (f, vs, l) => some (f, .agg vs, l)
    | none => none
  | v => viewPV H k0 v
def viewEls (H : Hp) (k0 : Nat) : List AV → Option (Bool × List PV × List Nat)
  | [] => some (true, [], [])
  | x :: r => match viewEl H k0 x, viewEls H k0 r with
    | some (f, v, l), some (g, vs, m) => some (f && g, v :: vs, l ++ m)
    | _, _ => none

def TC.view : TC → PV
  | .fl v => v
  | .ow l => .sl 1 l
  | .ref _ => .nilsl
  | .dead => .nilsl
def tcEl (x : List TC) : PV := match x with
  | [t] => t.view
  | x => .agg (x.map TC.view)
def TC.alive : TC → Prop
  | .fl _ => True
  | .ow _ => True
  | .ref _ => False
  | .dead => False
def aliveT (els : List (List TC)) : Prop := ∀ x ∈ els, ∀ t ∈ x, t.alive
def TC.unref : TC → TC
  | .ref _ => .dead
  | t => t
/-- A tree as it may be lent: the value, its number, what is to hold. -/
def viewT (H : Hp) : AV → Option (PV × Nat × Prop)
  | .rowf h => match H h with
    | some (.tree _ sz _ els) => some (.sl sz (els.map tcEl), h, aliveT els)
    | _ => none
  | _ => none

def AV.cells : AV → List AV
  | .agg cs => cs
  | v => [v]

def AV.one : AV → Bool
  | .agg _ => false
  | .tuple _ => false
  | _ => true

/-- The rows of these numbers, written no more. -/
def freeze (H : Hp) : List Nat → List (Nat × Ob)
  | [] => []
  | h :: r => match H h with
    | some (.row e sz fr _ els) => (h, .row e sz fr true els) :: freeze H r
    | _ => freeze H r

def setAt {α : Type _} : List α → Nat → α → List α
  | [], _, _ => []
  | _ :: r, 0, v => v :: r
  | x :: r, n + 1, v => x :: setAt r n v
def setMany {α : Type _} (l : List α) : Nat → List α → List α
  | _, [] => l
  | o, v :: r => setMany (setAt l o v) (o + 1) r

def ok1 (v : AV) : Step := .ok [] (some v) [] []

def isB (b : Bool) : AV := .p true (.bool b)
def isI (k : IntKind) (n : Int) : AV := .p true (.int k n)

def binInt (op : BinOp) (k : IntKind) (x y : Int) : Step := match op with
  | .add => ok1 (isI k (k.wrap (x + y)))
  | .sub => ok1 (isI k (k.wrap (x - y)))
  | .mul => ok1 (isI k (k.wrap (x * y)))
  | .quo => .ok [y ≠ 0] (some (isI k (k.wrap (x.tdiv y)))) [] []
  | .rem => .ok [y ≠ 0] (some (isI k (x.tmod y))) [] []
  | .and => ok1 (isI k (k.wrap (BitVec.ofInt k.bits x &&& BitVec.ofInt k.bits y).toNat))
  | .or => ok1 (isI k (k.wrap (BitVec.ofInt k.bits x ||| BitVec.ofInt k.bits y).toNat))
  | .xor => ok1 (isI k (k.wrap (BitVec.ofInt k.bits x ^^^ BitVec.ofInt k.bits y).toNat))
  | .andNot => ok1 (isI k (k.wrap (BitVec.ofInt k.bits x &&& ~~~(BitVec.ofInt k.bits y)).toNat))
  | .eql => ok1 (isB (x == y))
  | .neq => ok1 (isB (x != y))
  | .lss => ok1 (isB (decide (x < y)))
  | .leq => ok1 (isB (decide (x ≤ y)))
  | .gtr => ok1 (isB (decide (x > y)))
  | .geq => ok1 (isB (decide (x ≥ y)))
  | _ => .bad
def shiftInt (op : BinOp) (k : IntKind) (x y : Int) : Step := match op with
  | .shl => .ok [0 ≤ y] (some (isI k (k.wrap (x * 2 ^ (min y.toNat k.bits))))) [] []
  | .shr => .ok [0 ≤ y] (some (isI k (x.fdiv (2 ^ (min y.toNat k.bits))))) [] []
  | _ => .bad
def binStr (op : BinOp) (x y : ByteArray) : Step := match op with
  | .add => .ok [((x.size + y.size : Nat) : Int) ≤ 9223372036854775807] (some (.p true (.str (x ++ y)))) [] []
  | .eql => ok1 (isB (x.data.toList == y.data.toList))
  | .neq => ok1 (isB (!(x.data.toList == y.data.toList)))
  | .lss => ok1 (isB (Op.bytesLess x.data.toList y.data.toList))
  | _ => .bad
def isShift : BinOp → Bool
  | .shl | .shr => true
  | _ => false
def sameKind : IntKind → IntKind → Bool
  | .i8, .i8 | .i16, .i16 | .i32, .i32 | .i64, .i64 | .u8, .u8 | .u16, .u16 | .u32, .u32 | .u64, .u64 => true
  | _, _ => false
/-- Is a slice the nil one? -/
def nilAsk (H : Hp) : AV → Option ((Bool → Prop) × List Nat)
  | .p _ .nilsl => some (fun _ => True, [])
  | .p _ (.sl _ els) => some (fun b => b = true → els = [], [])
  | .rowf h => match H h with
    | some (.row _ _ _ _ els) => some (fun b => b = true → els = [], [h])
    | _ => none
  | _ => none
def evalEq (k : TK) (op : BinOp) (a b : AV) : Step := match k, a, b with
  | .bool, .p _ (.bool x), .p _ (.bool y) => match op with
    | .eql => ok1 (isB (x == y))
    | .neq => ok1 (isB (!(x == y)))
    | _ => .bad
  | .ptr _, .p _ .nilptr, .p _ .nilptr => match op with
    | .eql => ok1 (isB true)
    | .neq => ok1 (isB false)
    | _ => .bad
  | .ptr _, .ptr _ _, .p _ .nilptr => match op with
    | .eql => ok1 (isB false)
    | .neq => ok1 (isB true)
    | _ => .bad
  | _, _, _ => .bad
def isNilConst : Operand → Bool
  | .const (.slice none 0 0) => true
  | _ => false
def evalNil (T : Tab) (H : Hp) (op : BinOp) (t : TypeId) (a : AV) : Step := match look T t, op with
  | some d, .eql => match d.k, nilAsk H a with
    | .slice _, some (c, rd) => .dem c rd
    | _, _ => .bad
  | _, _ => .bad
def eqLeaf (k : TK) (a b : AV) : Option Bool := match k, a, b with
  | .int k, .p _ (.int k1 n), .p _ (.int k2 m) => match sameKind k k1, sameKind k k2 with
    | true, true => some (n == m)
    | _, _ => none
  | .bool, .p _ (.bool a), .p _ (.bool b) => some (a == b)
  | .str, .p _ (.str a), .p _ (.str b) => some (a.data.toList == b.data.toList)
  | _, _, _ => none
def eqLeaves : List (Nat × TK) → List AV → List AV → Option Bool
  | [], _, _ => some true
  | (o, k) :: r, xs, ys => match xs[o]?, ys[o]? with
    | some a, some b => match eqLeaf k a b, eqLeaves r xs ys with
      | some p, some q => some (p && q)
      | _, _ => none
    | _, _ => none
/-- Structs of flat cells: the same? -/
def evalEqS (T : Tab) (op : BinOp) (t : TypeId) (xs ys : List AV) : Step := match look T t with
  | some d => match d.eq, Nat.beq xs.length d.size && Nat.beq ys.length d.size with
    | p :: l, true => match eqLeaves (p :: l) xs ys, op with
      | some b, .eql => ok1 (isB b)
      | some b, .neq => ok1 (isB (!b))
      | _, _ => .bad
    | _, _ => .bad
  | none => .bad
def evalBin (T : Tab) (op : BinOp) (t : TypeId) (a b : AV) : Step := match a, b with
  | .agg xs, .agg ys => evalEqS T op t xs ys
  | .p _ (.int k x), .p _ (.int k' y) => match isShift op with
    | true => shiftInt op k x y
    | false => match sameKind k k' with
      | true => binInt op k x y
      | false => .bad
  | .p _ (.str x), .p _ (.str y) => binStr op x y
  | a, b => match look T t with
    | some d => evalEq d.k op a b
    | none => .bad

def evalUn (op : UnOp) : AV → Step
  | .p _ (.bool b) => match op with
    | .not => ok1 (isB (!b))
    | _ => .bad
  | .p _ (.int k n) => match op with
    | .neg => ok1 (isI k (k.wrap (-n)))
    | .xor => ok1 (isI k (k.wrap (BitVec.ofInt k.bits (if k.signed then -1 else k.max) ^^^ BitVec.ofInt k.bits n).toNat))
    | _ => .bad
  | _ => .bad

def evalConv (T : Tab) (H : Hp) (k0 : Nat) (dst : TypeId) (src : TypeId) (x : AV) : Step :=
  match look T dst, look T src with
  | some d, some s => match d.k, s.k, x with
    | .int k, .int _, .p _ (.int _ n) => ok1 (isI k (k.wrap n))
    | .str, .str, .p f (.str b) => ok1 (.p f (.str b))
    | .slice e, .str, .p _ (.str b) => match look T e with
      | some de => match de.k with
        | .int .u8 => .ok [b.size ≤ 140737488355328] (some (.p true (.sl 1 (strEls b)))) [] []
        | _ => .bad
      | none => .bad
    | .str, .slice e, x => match look T e, viewPV H k0 x with
      | some de, some (_, .sl 1 els, rd) => match de.k with
        | .int .u8 => .ok [∀ v ∈ els, v.isByte] (some (.p true (.str (elsStr els)))) rd []
        | _ => .bad
      | some de, some (_, .nilsl, rd) => match de.k with
        | .int .u8 => .ok [] (some (.p true (.str ⟨#[]⟩))) rd []
        | _ => .bad
      | _, _ => .bad
    | .slice _, .slice e, .rowf h => match look T e, H h with
      | some de, some (.row _ 1 fr false els) => match de.k, Nat.beq src dst with
        | .int .u8, true => .ok [0 < els.length] (some (.p fr (.sl 1 els))) [h] [(h, .gone)]
        | _, _ => .bad
      | _, _ => .bad
    | _, _, _ => .bad
  | _, _ => .bad

def lenOf (H : Hp) : AV → Option (Nat × List Nat)
  | .p _ (.sl _ els) => some (els.length, [])
  | .p _ .nilsl => some (0, [])
  | .p _ (.str s) => some (s.size, [])
  | .rowf h => match H h with
    | some (.row _ _ _ _ els) => some (els.length, [h])
    | some (.tree _ _ _ els) => some (els.length, [h])
    | _ => none
  | .row h _ n => match H h with
    | some (.row _ _ _ _ _) => some (n, [h])
    | _ => none
  | _ => none

/-- What stands where nothing stands: a type's zero. -/
def dfl (T : Tab) (e : TypeId) : PV := match look T e with
  | some d => match d.zero with
    | [x] => x
    | zs => .agg zs
  | none => .nilsl
def withDfl (T : Tab) (e : TypeId) (K : PV → Step) : Step := match look T e with
  | some d => match d.zero with
    | [x] => K x
    | zs => K (.agg zs)
  | none => K .nilsl
def loadCells (T : Tab) (fr : Bool) (t : TypeId) (cs : List PV) (rd : List Nat) : Step :=
  match look T t with
  | some d => match d.isAgg with
    | true => .ok [d.size ≤ cs.length] (some (.agg ((cs.take d.size).map fun v => AV.p (fr || v.flatB) v))) rd []
    | false => match cs with
      | v :: _ => .ok [] (some (.p (fr || v.flatB) v)) rd []
      | [] => .bad
  | none => .bad
/-- An element of a row, or a part of it. -/
def loadEl (T : Tab) (fr : Bool) (t : TypeId) (sz off : Nat) (x : PV) (rd : List Nat) : Step :=
  match Nat.beq sz 1 && Nat.beq off 0 with
  | true => match look T t with
    | some d => match d.isAgg with
      | false => .ok [x.cells = [x]] (some (.p (fr || x.flatB) x)) rd []
      | true => loadCells T fr t (x.cells.drop off) rd
    | none => .bad
  | false => loadCells T fr t (x.cells.drop off) rd
def evalLoad (T : Tab) (H : Hp) (nx : Nat) (t : TypeId) : AV → Step
  | .ptr h off => match H h, look T t with
    | some (.box cs), some d => match d.isAgg with
      | true => .ok [off + d.size ≤ cs.length] (some (.agg ((cs.drop off).take d.size))) [h] []
      | false => match cs.drop off with
        | v :: _ => .ok [] (some v) [h] []
        | [] => .bad
    | _, _ => .bad
  | .eptr fr cs => loadCells T fr t cs []
  | .rptr h i off => match H h with
    | some (.row e sz fr _ els) => withDfl T e fun z => loadEl T fr t sz off (els.getD i z) [h]
    | some (.tree e sz ie els) => match look T t with
      | some d => match d.isAgg with
        | false => match (els.getD i [])[off]? with
          | some (.fl v) => .ok [] (some (.p true v)) [h] []
          | some (.ow l) => .ok [] (some (.rowf nx)) [h] [(nx, .row ie 1 true false l), (h, .tree e sz ie (els.set i ((els.getD i []).set off (.ref nx))))]
          | some (.ref q) => .ok [] (some (.rowf q)) [h] []
          | _ => .bad
        | true => .bad
      | none => .bad
    | _ => .bad
  | _ => .bad
def lowestOk (k0 : Nat) : List Nat → Bool
  | [] => true
  | h :: r => Nat.ble k0 h && lowestOk k0 r
def memN (l : List Nat) (k : Nat) : Bool := match l with
  | [] => false
  | i :: r => Nat.beq i k || memN r k
def evalStore (T : Tab) (H : Hp) (k0 : Nat) (t : TypeId) (a v : AV) : Step :=
  match a with
  | .ptr h off => match H h, look T t with
    | some (.box cs), some d => match v.cells.all AV.one with
      | true => .ok [off + d.size ≤ cs.length, v.cells.length = d.size] none [h] [(h, .box (setMany cs off v.cells))]
      | false => .bad
    | _, _ => .bad
  | .rptr h i 0 => match H h, v, look T t with
    | some (.row e 1 fr false els), .p f w, some d => match Nat.beq d.size 1 with
      | true => .ok [] none [h] [(h, .row e 1 (fr && f) false (els.set i w))]
      | false => .bad
    | _, _, _ => .bad
  | .rptr h i (o + 1) => match H h, viewPV H k0 v, look T t with
    | some (.row e sz fr false els), some (f, w, rd), some d => match els[i]?, Nat.beq d.size 1 && !memN rd h && lowestOk k0 rd with
      | some (.agg cs), true => .ok [o + 1 < cs.length] none (h :: rd) ((h, .row e sz (fr && f) false (els.set i (.agg (cs.set (o + 1) w)))) :: freeze H rd)
      | _, _ => .bad
    | _, _, _ => .bad
  | _ => .bad

def evalFieldAddr (T : Tab) (H : Hp) (s : TypeId) (f : Nat) (a : AV) : Step :=
  match look T s with
  | some d => match d.k with
    | .struct fs => match fs[f]? with
      | some (o, n, _) => match n with
        | 0 => .bad
        | _ => match a with
          | .ptr h off => ok1 (.ptr h (off + o))
          | .eptr fr cs => ok1 (.eptr fr (cs.drop o))
          | .rptr h i off => match H h with
            | some (.row _ _ _ _ _) => .ok [] (some (.rptr h i (off + o))) [h] []
            | some (.tree _ _ _ _) => .ok [] (some (.rptr h i (off + o))) [h] []
            | _ => .bad
          | _ => .bad
      | none => .bad
    | _ => .bad
  | none => .bad
def evalField (T : Tab) (s : TypeId) (f : Nat) (a : AV) : Step :=
  match look T s, a with
  | some d, .agg cs => match d.k with
    | .struct fs => match fs[f]? with
      | some (o, n, g) => match g with
        | true => .ok [o + n ≤ cs.length] (some (.agg ((cs.drop o).take n))) [] []
        | false => match cs.drop o with
          | v :: _ => ok1 v
          | [] => .bad
      | none => .bad
    | _ => .bad
  | _, _ => .bad
def szOk (T : Tab) (e : TypeId) (sz : Nat) : Bool := match look T e with
  | some de => Nat.beq de.size sz
  | none => false
def evalIndexAddr (T : Tab) (H : Hp) (t : TypeId) (x ix : AV) : Step :=
  match look T t, ix with
  | some d, .p _ (.int _ i) => match d.k, x with
    | .slice e, .p fr (.sl sz els) => match szOk T e sz with
      | true => withDfl T e fun z => .ok [0 ≤ i ∧ i < els.length] (some (.eptr fr (els.getD i.toNat z).cells)) [] []
      | false => .bad
    | .slice e, .rowf h => match H h with
      | some (.row _ sz _ _ els) => match szOk T e sz with
        | true => .ok [0 ≤ i ∧ i < els.length] (some (.rptr h i.toNat 0)) [h] []
        | false => .bad
      | some (.tree _ sz _ els) => match szOk T e sz with
        | true => .ok [0 ≤ i ∧ i < els.length] (some (.rptr h i.toNat 0)) [h] []
        | false => .bad
      | _ => .bad
    | .slice e, .row h off n => match H h with
      | some (.row _ sz _ _ _) => match szOk T e sz with
        | true => .ok [0 ≤ i ∧ i < n] (some (.rptr h (off + i.toNat) 0)) [h] []
        | false => .bad
      | _ => .bad
    | .arr n e, .ptr h off => match look T e with
      | some de => .ok [0 ≤ i ∧ i < n] (some (.ptr h (off + i.toNat * de.size))) [] []
      | none => .bad
    | _, _ => .bad
  | _, _ => .bad
def evalIndex (T : Tab) (t : TypeId) (x ix : AV) : Step :=
  match look T t, ix with
  | some d, .p _ (.int _ i) => match d.k, x with
    | .str, .p _ (.str s) => .ok [0 ≤ i ∧ i < s.size] (some (.p true (bv (s.data.toList.getD i.toNat 0)))) [] []
    | _, _ => .bad
  | _, _ => .bad

/-- The bounds of a cut: from, to; what is to hold. -/
def boundOf : Option AV → Int → Option Int
  | none, d => some d
  | some (.p _ (.int _ i)), _ => some i
  | some _, _ => none
def evalSlice (T : Tab) (H : Hp) (t : TypeId) (x : AV) (lo hi : Option AV) : Step :=
  match look T t with
  | some d => match d.k, x with
    | .str, .p _ (.str s) => match boundOf lo 0, boundOf hi s.size with
      | some l, some h => .ok [0 ≤ l ∧ l ≤ h ∧ h ≤ s.size] (some (.p true (.str (s.extract l.toNat h.toNat)))) [] []
      | _, _ => .bad
    | .slice e, .p fr (.sl sz els) => match szOk T e sz, boundOf lo 0, boundOf hi els.length with
      | true, some l, some h => .ok [0 ≤ l ∧ l ≤ h ∧ h ≤ els.length] (some (.p fr (.sl sz ((els.take h.toNat).drop l.toNat)))) [] []
      | _, _, _ => .bad
    | .slice e, .p fr .nilsl => match look T e, boundOf lo 0, boundOf hi 0 with
      | some _, some l, some h => .ok [0 ≤ l ∧ l ≤ h ∧ h ≤ 0] (some (.p fr .nilsl)) [] []
      | _, _, _ => .bad
    | .slice e, .rowf r => match H r with
      | some (.row _ sz _ _ els) => match szOk T e sz, boundOf lo 0, boundOf hi els.length with
        | true, some l, some h => .ok [0 ≤ l ∧ l ≤ h ∧ h ≤ els.length] (some (.row r l.toNat (h.toNat - l.toNat))) [r] []
        | _, _, _ => .bad
      | _ => .bad
    | .slice e, .row r off n => match H r with
      | some (.row _ sz _ _ els) => match szOk T e sz, boundOf lo 0, boundOf hi n with
        | true, some l, some h => .ok [0 ≤ l ∧ l ≤ h ∧ off + h.toNat ≤ els.length] (some (.row r (off + l.toNat) (h.toNat - l.toNat))) [r] []
        | _, _, _ => .bad
      | _ => .bad
    | _, _ => .bad
  | none => .bad

/-- The place of parts of a struct: written one behind the other. -/
def fillParts (fs : List (Nat × Nat × Bool)) : List AV → List (Nat × AV) → Option (List AV)
  | cs, [] => some cs
  | cs, (i, v) :: r => match fs[i]? with
    | some (o, n, _) => match Nat.beq v.cells.length n && Nat.ble (o + n) cs.length with
      | true => fillParts fs (setMany cs o v.cells) r
      | false => none
    | none => none
def evalParts (e : Env) : List (Nat × Operand) → Option (List (Nat × AV))
  | [] => some []
  | (i, x) :: r => match evalR e x, evalParts e r with
    | some a, some b => some ((i, a) :: b)
    | _, _ => none
def evalBuild (T : Tab) (t : TypeId) (parts : List (Nat × AV)) : Step :=
  match look T t with
  | some d => match d.k with
    | .struct fs => match fillParts fs (d.zero.map (AV.p true)) parts, d.zero with
      | some cs, _ :: _ => ok1 (.agg cs)
      | _, _ => .bad
    | _ => .bad
  | none => .bad

/-- Parts that stand in order, none left out. -/
def inOrder : Nat → List (Nat × AV) → Option (List AV)
  | _, [] => some []
  | n, (i, v) :: r => match Nat.beq i n, inOrder (n + 1) r with
    | true, some l => some (v :: l)
    | _, _ => none
def lensAre (sz : Nat) : List PV → Bool
  | [] => true
  | x :: r => Nat.beq x.cells.length sz && lensAre sz r
/-- A type of lists whose rows own what they hold (a mark of the table's own): the type of what is in those. -/
def TD.owns (d : TD) : Option TypeId := match d.eq with
  | [(_, .slice ie)] => some ie
  | _ => none
/-- A cell that goes into a tree: what it is, the row that it takes, what is to hold. -/
def takeCell (H : Hp) (k0 : Nat) (ie : TypeId) : AV → Option (TC × List Nat × List Prop)
  | .p _ (.int k n) => some (.fl (.int k n), [], [])
  | .p _ (.bool b) => some (.fl (.bool b), [], [])
  | .p _ (.str s) => some (.fl (.str s), [], [])
  | .p _ .nilsl => some (.ow [], [], [])
  | .rowf h => match H h with
    | some (.row e 1 _ false els) => match Nat.beq e ie && Nat.ble k0 h with
      | true => some (.ow els, [h], [∀ v ∈ els, v.isFlat])
      | false => none
    | _ => none
  | .row h 0 n => match H h with
    | some (.row e 1 _ false els) => match Nat.beq e ie && Nat.ble k0 h with
      | true => some (.ow (els.take n), [h], [∀ v ∈ els, v.isFlat])
      | false => none
    | _ => none
  | _ => none
def takeCells (H : Hp) (k0 : Nat) (ie : TypeId) : List AV → Option (List TC × List Nat × List Prop)
  | [] => some ([], [], [])
  | x :: r => match takeCell H k0 ie x, takeCells H k0 ie r with
    | some (c, u, p), some (cs, u2, p2) => some (c :: cs, u ++ u2, p ++ p2)
    | _, _ => none
def takeEls (H : Hp) (k0 : Nat) (ie : TypeId) : List AV → Option (List (List TC) × List Nat × List Prop)
  | [] => some ([], [], [])
  | x :: r => match takeCells H k0 ie x.cells, takeEls H k0 ie r with
    | some (c, u, p), some (cs, u2, p2) => some (c :: cs, u ++ u2, p ++ p2)
    | _, _ => none
def tlensAre (sz : Nat) : List (List TC) → Bool
  | [] => true
  | x :: r => Nat.beq x.length sz && tlensAre sz r
def nodupN : List Nat → Bool
  | [] => true
  | i :: r => !memN r i && nodupN r
def allGone : List Nat → List (Nat × Ob)
  | [] => []
  | h :: r => (h, .gone) :: allGone r
def evalBuildTree (T : Tab) (H : Hp) (k0 nx : Nat) (e ie : TypeId) (len : Nat) (parts : List (Nat × AV)) : Step :=
  match look T e, inOrder 0 parts with
  | some de, some vs => match Nat.beq vs.length len, takeEls H k0 ie vs with
    | true, some (els, us, ps) => match tlensAre de.size els && nodupN us && Nat.ble (len * de.size) 16777216 && Nat.ble 1 de.size && !de.zero.isEmpty with
      | true => .ok ps (some (.rowf nx)) us ((nx, .tree e de.size ie els) :: allGone us)
      | false => .bad
    | _, _ => .bad
  | _, _ => .bad
def evalBuildSlice (T : Tab) (H : Hp) (k0 nx : Nat) (t : TypeId) (len : Nat) (parts : List (Nat × AV)) : Step :=
  match look T t with
  | some d => match d.k with
    | .slice e => match d.owns with
     | some ie => evalBuildTree T H k0 nx e ie len parts
     | none => match look T e, inOrder 0 parts with
      | some de, some vs => match Nat.beq vs.length len, viewEls H k0 vs with
        | true, some (fr, els, rd) => match lensAre de.size els && lowestOk k0 rd && Nat.ble (len * de.size) 16777216 && Nat.ble 1 de.size && !de.zero.isEmpty with
          | true => .ok [] (some (.rowf nx)) rd ((nx, .row e de.size fr false els) :: freeze H rd)
          | false => .bad
        | _, _ => .bad
      | _, _ => .bad
    | _ => .bad
  | none => .bad

def evalMake (T : Tab) (nx : Nat) (t : TypeId) : AV → AV → Step
  | .p _ (.int _ l), .p _ (.int _ c) => match look T t with
    | some d => match d.k with
      | .slice e => match look T e with
        | some de => match de.zero, Nat.ble 1 de.size && Nat.beq de.zero.length de.size with
          | z, true => .ok [0 ≤ l ∧ l ≤ c, c * de.bytes ≤ 140737488355328 ∧ c ≤ 140737488355328] (some (.row nx 0 l.toNat)) []
              [(nx, .row e de.size true false (List.replicate c.toNat (match z with | [x] => x | zs => .agg zs)))]
          | _, _ => .bad
        | none => .bad
      | _ => .bad
    | none => .bad
  | _, _ => .bad

/-- The tree that an append goes on with. -/
def srcTree (H : Hp) (k0 : Nat) (e sz ie : Nat) : AV → Option (List (List TC) × List Nat)
  | .p _ .nilsl => some ([], [])
  | .rowf h => match H h with
    | some (.tree e' sz' ie' els) => match Nat.beq e e' && Nat.beq sz sz' && Nat.beq ie ie' && Nat.ble k0 h with
      | true => some (els, [h])
      | false => none
    | _ => none
  | _ => none
def evalAppendT (T : Tab) (H : Hp) (k0 nx : Nat) (e ie : TypeId) (x y : AV) : Step :=
  match look T e with
  | some de => match srcTree H k0 e de.size ie x, srcTree H k0 e de.size ie y with
    | some (els, us), some (els2, us2) => match nodupN (us ++ us2) && Nat.ble 1 de.size && Nat.beq de.zero.length de.size with
      | true => .ok [(els.length + els2.length) * de.bytes ≤ 140737488355328 ∧ els.length + els2.length ≤ 141836999983104] (some (.rowf nx)) (us ++ us2) ((nx, .tree e de.size ie (els ++ els2)) :: allGone (us ++ us2))
      | false => .bad
    | _, _ => .bad
  | none => .bad
/-- The row that an append goes on with: its elements, whether they lie apart, whose place it takes. -/
def srcRow (H : Hp) : AV → Option (Option (TypeId × Nat) × Bool × List PV × List Prop × List (Nat × Ob) × List Nat)
  | .p _ .nilsl => some (none, true, [], [], [], [])
  | .rowf h => match H h with
    | some (.row e sz fr false els) => some (some (e, sz), fr, els, [], [(h, .gone)], [h])
    | _ => none
  | .row h 0 n => match H h with
    | some (.row e sz fr false els) => some (some (e, sz), fr, els.take n, [n ≤ els.length], [(h, .gone)], [h])
    | _ => none
  | _ => none
/-- What is put behind it. -/
def addedEls (H : Hp) (k0 : Nat) (sz : Nat) (x : AV) : Option (Bool × List PV × List Nat) := match viewPV H k0 x with
  | some (fr, .sl sz' els, rd) => match Nat.beq sz sz' with
    | true => some (fr, els, rd)
    | false => none
  | some (fr, .nilsl, rd) => some (fr, [], rd)
  | _ => none
def evalAppend (T : Tab) (H : Hp) (k0 nx : Nat) (t t2 : TypeId) (x y : AV) : Step :=
  match look T t, look T t2 with
  | some d, some d2 => match d.k with
    | .slice e => match d.owns with
     | some ie => match d2.k with
      | .slice _ => evalAppendT T H k0 nx e ie x y
      | _ => .bad
     | none => match look T e, srcRow H x with
      | some de, some (es, fr, els, c, ups, rd) =>
        match (match es with | none => true | some (e', sz) => Nat.beq e e' && Nat.beq de.size sz) && Nat.ble 1 de.size && Nat.beq de.zero.length de.size with
        | true => match d2.k, es, y with
          | .int _, none, .p _ (.int _ n) => .ok [0 ≤ n, n * de.bytes ≤ 140737488355328 ∧ n ≤ 140737488355328] (some (.rowf nx)) rd
              [(nx, .row e de.size true false (List.replicate n.toNat (match de.zero with | [x] => x | zs => .agg zs)))]
          | .int _, some _, .p _ (.int _ n) => .ok (c ++ [0 ≤ n ∧ ((els.length + n.toNat) * de.bytes ≤ 140737488355328 ∧ els.length + n.toNat ≤ 141836999983104)]) (some (.rowf nx)) rd
              ((nx, .row e de.size fr false (els ++ List.replicate n.toNat (match de.zero with | [x] => x | zs => .agg zs))) :: ups)
          | .int _, _, _ => .bad
          | .str, _, .p _ (.str s) => match Nat.beq de.size 1 with
            | true => .ok (c ++ [((els.length + s.size) * de.bytes ≤ 140737488355328 ∨ de.bytes = 1 ∧ els.length + s.size ≤ 141836999983104) ∧ els.length + s.size ≤ 141836999983104]) (some (.rowf nx)) rd
                ((nx, .row e de.size fr false (els ++ strEls s)) :: ups)
            | false => .bad
          | .slice _, _, y => match addedEls H k0 de.size y with
            | some (f2, els2, rd2) => .ok (c ++ [((els.length + els2.length) * de.bytes ≤ 140737488355328 ∨ de.bytes = 1 ∧ els.length + els2.length ≤ 141836999983104) ∧ els.length + els2.length ≤ 141836999983104]) (some (.rowf nx)) (rd ++ rd2)
                ((nx, .row e de.size (fr && f2) false (els ++ els2)) :: ups)
            | none => .bad
          | _, _, _ => .bad
        | false => .bad
      | _, _ => .bad
    | _ => .bad
  | _, _ => .bad
/-- copy(dst, src): into a row of one's own. -/
def evalCopy (T : Tab) (H : Hp) (k0 : Nat) (t t2 : TypeId) (x y : AV) : Step :=
  match look T t, look T t2 with
  | some d, some d2 => match d.k, d2.k with
    | .slice e, .slice _ => match szOk T e 1, x, viewPV H k0 y with
      | true, .row h 0 n, some (f2, .sl 1 els2, rd2) => match H h with
        | some (.row e' 1 fr false els) => .ok [els2.all (fun v => Nat.beq v.cells.length 1) = true] (some (isI .i64 (min els2.length n : Nat))) (h :: rd2)
            [(h, .row e' 1 (fr && f2) false (els2.take (min els2.length n) ++ els.drop (min els2.length n)))]
        | _ => .bad
      | _, _, _ => .bad
    | _, _ => .bad
  | _, _ => .bad

def minI : IntKind → Int → List AV → Option AV
  | k, x, [] => some (isI k x)
  | k, x, a :: r => match a with
    | .p _ (.int _ y) => minI k (if y < x then y else x) r
    | _ => none
def maxI : IntKind → Int → List AV → Option AV
  | k, x, [] => some (isI k x)
  | k, x, a :: r => match a with
    | .p _ (.int _ y) => maxI k (if x < y then y else x) r
    | _ => none

def evalBuiltin (T : Tab) (H : Hp) (k0 nx : Nat) (b : Builtin) (ts : List TypeId) (args : List AV) : Step :=
  match b, args with
  | .len, [x] => match ts with
    | t :: _ => match look T t, lenOf H x with
      | some d, some (n, rd) => match d.k, x with
        | .str, .p _ (.str _) => .ok [] (some (isI .i64 n)) rd []
        | .slice _, .p _ (.str _) => .bad
        | .slice _, _ => .ok [] (some (isI .i64 n)) rd []
        | _, _ => .bad
      | _, _ => .bad
    | [] => .bad
  | .cap, [.p _ .nilsl] => match ts with
    | t :: _ => match look T t with
      | some d => match d.k with
        | .slice _ => ok1 (isI .i64 0)
        | _ => .bad
      | none => .bad
    | [] => .bad
  | .append, [x, y] => match ts with
    | [t, t2] => evalAppend T H k0 nx t t2 x y
    | _ => .bad
  | .copy, [x, y] => match ts with
    | [t, t2] => evalCopy T H k0 t t2 x y
    | _ => .bad
  | .min, .p _ (.int k x) :: r => match minI k x r with
    | some v => ok1 v
    | none => .bad
  | .max, .p _ (.int k x) :: r => match maxI k x r with
    | some v => ok1 v
    | none => .bad
  | _, _ => .bad

/-- Which thing stands for which: the formal number, and what it is. -/
inductive Tgt where
  | full (h : Nat)
  | trunc (h n : Nat)
  | nil
abbrev Sg := List (Nat × Tgt)

def zipSg (f : AV → AV → Sg) : List AV → List AV → Sg
  | a :: r, b :: s => f a b ++ zipSg f r s
  | _, _ => []
def pairs : Nat → AV → AV → Sg
  | 0, _, _ => []
  | n + 1, a, b => match a, b with
    | .ptr i _, .ptr h _ => [(i, .full h)]
    | .rowf i, .rowf h => [(i, .full h)]
    | .rowf i, .row h _ n => [(i, .trunc h n)]
    | .rowf i, .p _ .nilsl => [(i, .nil)]
    | .row i _ _, .row h _ _ => [(i, .full h)]
    | .rptr i _ _, .rptr h _ _ => [(i, .full h)]
    | .func _ a b, .func _ c d => zipSg (pairs n) a c ++ zipSg (pairs n) b d
    | .agg a, .agg c => zipSg (pairs n) a c
    | .tuple a, .tuple c => zipSg (pairs n) a c
    | _, _ => []
def pairsL (n : Nat) (a b : List AV) : Sg := zipSg (pairs n) a b


def tgt (σ : Sg) (i : Nat) : Option Tgt := look σ i
def Tgt.id : Tgt → Option Nat
  | .full h => some h
  | .trunc h _ => some h
  | .nil => none

def pvle (v : PV) : PV → Prop
  | .nilsl => match v with
    | .sl _ els => els = []
    | v => v = .nilsl
  | w => v = w

abbrev Mt := Option (List Prop × List Nat × List Nat)
def Mt.and : Mt → Mt → Mt
  | some (a, b, c), some (d, e, f) => some (a ++ d, b ++ e, c ++ f)
  | _, _ => none
def Mt.ok : Mt := some ([], [], [])

def zipMt (f : AV → AV → Mt) : List AV → List AV → Mt
  | [], [] => Mt.ok
  | a :: r, b :: s => Mt.and (f a b) (zipMt f r s)
  | _, _ => none
/-- Does a value stand for a formal one? What is to hold, the rows to be written no more, the rows lent. -/
def mtV (σ : Sg) (H : Hp) (k0 : Nat) (bor : Bool) : Nat → AV → AV → Mt
  | 0, _, _ => none
  | n + 1, f, a => match f with
    | .p fr v => match viewPV H k0 a with
      | some (g, w, l) => match bor, fr, g with
        | true, false, _ => some ([pvle v w], [], l)
        | _, true, false => some ([pvle v w, w.isFlat], l, [])
        | _, _, _ => some ([pvle v w], l, [])
      | none => match viewT H a with
        | some (w, h, p) => match bor, fr with
          | true, false => some ([pvle v w, p], [], [h])
          | _, _ => none
        | none => none
    | .ptr i o => match a with
      | .ptr h o' => match tgt σ i, Nat.beq o o' with
        | some (.full h'), true => match Nat.beq h h' with
          | true => Mt.ok
          | false => none
        | _, _ => none
      | _ => none
    | .rowf i => match a with
      | .rowf h => match tgt σ i with
        | some (.full h') => match Nat.beq h h' with
          | true => Mt.ok
          | false => none
        | _ => none
      | .row h o n => match tgt σ i, o with
        | some (.trunc h' n'), 0 => match Nat.beq h h' with
          | true => some ([n = n'], [], [])
          | false => none
        | _, _ => none
      | .p _ .nilsl => match tgt σ i with
        | some .nil => Mt.ok
        | _ => none
      | _ => none
    | .row i o n => match a with
      | .row h o' n' => match tgt σ i with
        | some (.full h') => match Nat.beq h h' with
          | true => some ([o = o', n = n'], [], [])
          | false => none
        | _ => none
      | _ => none
    | .func f x y => match a with
      | .func g z w => match Nat.beq f g with
        | true => Mt.and (zipMt (mtV σ H k0 bor n) x z) (zipMt (mtV σ H k0 bor n) y w)
        | false => none
      | _ => none
    | .agg x => match a with
      | .agg y => zipMt (mtV σ H k0 bor n) x y
      | _ => none
    | .tuple x => match a with
      | .tuple y => zipMt (mtV σ H k0 bor n) x y
      | _ => none
    | _ => none
def mtVs (σ : Sg) (H : Hp) (k0 : Nat) (n : Nat) (bor : Bool) (a b : List AV) : Mt := zipMt (mtV σ H k0 bor n) a b

def mtOb (σ : Sg) (H : Hp) (k0 : Nat) : Ob → Tgt → Mt
  | .box cs, .full h => match H h with
    | some (.box ds) => mtVs σ H k0 5 false cs ds
    | _ => none
  | .row e sz fr false els, .full h => match H h with
    | some (.row e' sz' fr' false els') => match Nat.beq e e' && Nat.beq sz sz' with
      | true => match !fr || fr' with
        | true => some ([els = els'], [], [])
        | false => some ([els = els', ∀ v ∈ els', v.isFlat], [], [])
      | false => none
    | _ => none
  | .row e sz fr false els, .trunc h n => match H h with
    | some (.row e' sz' fr' false els') => match Nat.beq e e' && Nat.beq sz sz' with
      | true => match !fr || fr' with
        | true => some ([els = els'.take n, n ≤ els'.length], [], [])
        | false => some ([els = els'.take n, n ≤ els'.length, ∀ v ∈ els', v.isFlat], [], [])
      | false => none
    | _ => none
  | .row _ sz _ false els, .nil => match Nat.ble 1 sz with
    | true => some ([els = []], [], [])
    | false => none
  | .tree e sz ie els, .full h => match H h with
    | some (.tree e' sz' ie' els') => match Nat.beq e e' && Nat.beq sz sz' && Nat.beq ie ie' with
      | true => some ([els = els'.map (List.map TC.unref)], [], [])
      | false => none
    | _ => none
  | .tree _ sz _ els, .nil => match Nat.ble 1 sz with
    | true => some ([els = []], [], [])
    | false => none
  | .gone, .full h => match H h with
    | some _ => Mt.ok
    | none => none
  | _, _ => none
def mtH (σ : Sg) (H : Hp) (k0 : Nat) : List (Nat × Ob) → Mt
  | [] => Mt.ok
  | (i, o) :: r => match tgt σ i with
    | some t => Mt.and (mtOb σ H k0 o t) (mtH σ H k0 r)
    | none => none

def ids {α : Type _} : List (Nat × α) → List Nat
  | [] => []
  | (i, _) :: r => i :: ids r
def disj (a b : List Nat) : Bool := match a with
  | [] => true
  | i :: r => !memN b i && disj r b
def nodup : List Nat → Bool
  | [] => true
  | i :: r => !memN r i && nodup r
def rowsOk (H : Hp) : List Nat → Bool
  | [] => true
  | h :: r => (match H h with
    | some (.row _ _ _ _ _) => true
    | _ => false) && rowsOk H r
/-- What may be lent: rows, trees. -/
def lentOk (H : Hp) : List Nat → Bool
  | [] => true
  | h :: r => (match H h with
    | some (.row _ _ _ _ _) => true
    | some (.tree _ _ _ _) => true
    | _ => false) && lentOk H r
def sgIn (l : List Nat) : Sg → Bool
  | [] => true
  | (i, _) :: r => memN l i && sgIn l r
def allIds (l : List Nat) : Nat → Bool
  | 0 => true
  | n + 1 => memN l n && allIds l n
def sgIds (σ : Sg) : List Nat := σ.flatMap fun x => match x.2 with
  | .full h => [h]
  | .trunc h _ => [h]
  | .nil => []
/-- Each formal thing once: the same pair may have been met twice. -/
def sgUniq : Sg → List Nat → Sg
  | [], _ => []
  | (i, t) :: r, seen => match memN seen i with
    | true => sgUniq r seen
    | false => (i, t) :: sgUniq r (i :: seen)

def trId (σ : Sg) (k nx i : Nat) : Nat := match Nat.blt i k with
  | true => match tgt σ i with
    | some (.full h) => h
    | some (.trunc h _) => h
    | _ => 0
  | false => nx + (i - k)
def renV (g : Nat → Nat) : Nat → AV → AV
  | 0, v => v
  | n + 1, v => match v with
    | .p fr v => .p fr v
    | .rowf i => .rowf (g i)
    | .row i o n => .row (g i) o n
    | .ptr i o => .ptr (g i) o
    | .eptr fr cs => .eptr fr cs
    | .rptr i j o => .rptr (g i) j o
    | .func f a b => .func f (a.map (renV g n)) (b.map (renV g n))
    | .agg a => .agg (a.map (renV g n))
    | .tuple a => .tuple (a.map (renV g n))
def renVs (g : Nat → Nat) (n : Nat) (l : List AV) : List AV := l.map (renV g n)
def renO (g : Nat → Nat) : Ob → Ob
  | .box cs => .box (renVs g 5 cs)
  | o => o
/-- The lent things that are not handed back. -/
def goneOf (σ : Sg) (back : List Nat) : List (Nat × Ob) := match σ with
  | [] => []
  | (i, t) :: r => match t with
    | .full h => match memN back i with
      | true => goneOf r back
      | false => (h, .gone) :: goneOf r back
    | .trunc h _ => match memN back i with
      | true => goneOf r back
      | false => (h, .gone) :: goneOf r back
    | .nil => goneOf r back
def renH (σ : Sg) (k nx : Nat) : List (Nat × Ob) → List (Nat × Ob)
  | [] => []
  | (i, o) :: r => (trId σ k nx i, renO (trId σ k nx) o) :: renH σ k nx r
def allBelow (k : Nat) : List Nat → Bool
  | [] => true
  | i :: r => Nat.blt i k && allBelow k r

universe u
variable {α : Type u}
/-- Values written out before they are handed on (for the reckoning's speed alone: each is the identity). -/
def fSg : Sg → (Sg → α) → α
  | [], K => K []
  | (i, t) :: r, K => match t with
    | .full h => fSg r fun r' => K ((i, .full h) :: r')
    | .trunc h n => fSg r fun r' => K ((i, .trunc h n) :: r')
    | .nil => fSg r fun r' => K ((i, .nil) :: r')
def fNat (n : Nat) (K : Nat → α) : α := match n with
  | 0 => K 0
  | m + 1 => K (m + 1)
def fNs : List Nat → (List Nat → α) → α
  | [], K => K []
  | i :: r, K => fNs r fun r' => K (i :: r')
def fPs : List Prop → (List Prop → α) → α
  | [], K => K []
  | i :: r, K => fPs r fun r' => K (i :: r')
def fAs (f : AV → (AV → α) → α) : List AV → (List AV → α) → α
  | [], K => K []
  | v :: r, K => f v fun v' => fAs f r fun r' => K (v' :: r')
def fAV : Nat → AV → (AV → α) → α
  | 0, v, K => K v
  | n + 1, v, K => match v with
    | .p fr w => K (.p fr w)
    | .rowf i => K (.rowf i)
    | .row i o n => K (.row i o n)
    | .ptr i o => K (.ptr i o)
    | .eptr fr cs => K (.eptr fr cs)
    | .rptr i j o => K (.rptr i j o)
    | .func f a b => fAs (fAV n) a fun a' => fAs (fAV n) b fun b' => K (.func f a' b')
    | .agg a => fAs (fAV n) a fun a' => K (.agg a')
    | .tuple a => fAs (fAV n) a fun a' => K (.tuple a')
def fOb (o : Ob) (K : Ob → α) : α := match o with
  | .box cs => fAs (fAV 4) cs fun cs' => K (.box cs')
  | .row e sz fr fz els => fNat sz fun sz => match fr, fz with
    | true, true => K (.row e sz true true els)
    | true, false => K (.row e sz true false els)
    | false, true => K (.row e sz false true els)
    | false, false => K (.row e sz false false els)
  | .tree e sz ie els => fNat sz fun sz => K (.tree e sz ie els)
  | .gone => K .gone
def fEnv : List (Nat × AV) → (List (Nat × AV) → α) → α
  | [], K => K []
  | (i, v) :: r, K => fNat i fun i => fEnv r fun r' => K ((i, v) :: r')
def fUps : List (Nat × Ob) → (List (Nat × Ob) → α) → α
  | [], K => K []
  | (i, o) :: r, K => fOb o fun o' => fUps r fun r' => K ((i, o') :: r')

/-- The boxes that are named lead on to what their cells name. -/
def chase : Nat → List (Nat × Ob) → Hp → Sg → Sg → Sg
  | 0, _, _, done, _ => done
  | n + 1, fH, H, done, new =>
    fSg new fun new => chase n fH H (done ++ new) (new.flatMap fun x => match x.2 with
      | .full h => match look fH x.1, H h with
        | some (.box cs), some (.box ds) => pairsL 5 cs ds
        | _, _ => []
      | _ => [])

def callRaw (c : Ctr) (x : c.Ix) (H : Hp) (args : List AV) : Sg := chase 4 (c.heap x) H [] (pairsL 5 (c.args x) args)
/-- All of it lies apart. -/
def trueV : Nat → AV → Bool
  | 0, _ => false
  | n + 1, v => match v with
    | .p fr _ => fr
    | .eptr fr _ => fr
    | .func _ a b => a.all (trueV n) && b.all (trueV n)
    | .agg a => a.all (trueV n)
    | .tuple a => a.all (trueV n)
    | _ => true
def trueH : List (Nat × Ob) → Bool
  | [] => true
  | (_, o) :: r => (match o with
    | .box cs => cs.all (trueV 5)
    | .row _ _ fr _ _ => fr
    | .tree _ _ _ _ => true
    | .gone => true) && trueH r
def callMt (c : Ctr) (x : c.Ix) (H : Hp) (k0 : Nat) (args : List AV) (σ : Sg) : Mt :=
  Mt.and (mtVs σ H k0 5 (trueV 5 (c.res x) && trueH (c.heap' x)) (c.args x) args) (mtH σ H k0 (c.heap x))
/-- No deeper than so. -/
def deepV : Nat → AV → Bool
  | 0, _ => false
  | n + 1, v => match v with
    | .func _ a b => a.all (deepV n) && b.all (deepV n)
    | .agg a => a.all (deepV n)
    | .tuple a => a.all (deepV n)
    | _ => true
def deepH : List (Nat × Ob) → Bool
  | [] => true
  | (_, o) :: r => (match o with
    | .box cs => cs.all (deepV 5)
    | _ => true) && deepH r
def noTrunc : Sg → Bool
  | [] => true
  | (_, t) :: r => (match t with
    | .full _ => true
    | _ => false) && noTrunc r
/-- What is handed back under its own number is of its own kind and length; nothing else has a number of the caller's. -/
def sameLen (k : Nat) (h : List (Nat × Ob)) : List (Nat × Ob) → Option (List Prop)
  | [] => some []
  | (i, o) :: r => match sameLen k h r with
    | none => none
    | some l => match look h i with
      | none => match Nat.ble k i, o with
        | true, .row _ _ _ true _ => none
        | true, _ => some l
        | false, _ => none
      | some o0 => match o, o0 with
        | .row e sz _ false els, .row e' sz' _ _ els' => match Nat.beq e e' && Nat.beq sz sz' with
          | true => some ((els.length = els'.length) :: l)
          | false => none
        | .box _, .box _ => some l
        | .gone, _ => some l
        | _, _ => none
def noGone : List (Nat × Ob) → Bool
  | [] => true
  | (_, o) :: r => (match o with
    | .gone => false
    | _ => true) && noGone r
def samePtrs : List AV → List AV → Bool
  | [], [] => true
  | .ptr a b :: r, .ptr c d :: s => Nat.beq a c && Nat.beq b d && samePtrs r s
  | _, _ => false
/-- Boxes of pointers that are handed back as they were lent: nothing is written. -/
def keepB (H : Hp) (i : Nat) (o : Ob) : Bool := match o with
  | .box (c :: cs) => match H i with
    | some (.box ds) => !samePtrs (c :: cs) ds
    | _ => true
  | _ => true
def dropSame (H : Hp) (l0 : List Nat) (nx : Nat) : List (Nat × Ob) → List (Nat × Ob)
  | [] => []
  | (i, o) :: r => match memN l0 i && Nat.blt i nx && !memN (ids r) i with
    | true => match keepB H i o with
      | true => (i, o) :: dropSame H l0 nx r
      | false => dropSame H l0 nx r
    | false => (i, o) :: dropSame H l0 nx r
def callGo (c : Ctr) (x : c.Ix) (H : Hp) (k0 nx : Nat) (raw σ : Sg) (ps : List Prop) (fz bo : List Nat) : Option (List Prop × AV × List Nat × List (Nat × Ob)) :=
  match (bo.isEmpty || (trueV 5 (c.res x) && trueH (c.heap' x))) && disj (sgIds σ) (fz ++ bo) && nodup (sgIds σ) && nodup (ids σ) && sgIn (ids (c.heap x)) σ && rowsOk H fz && lentOk H bo && lowestOk k0 fz && noTrunc σ &&
      nodup (ids (c.heap x)) && allBelow c.k (ids (c.heap x)) && nodup (ids (c.heap' x)) && deepV 5 (c.res x) && deepH (c.heap' x) && noGone (c.heap x), sameLen c.k (c.heap x) (c.heap' x) with
  | true, some ls => some (ps ++ (ls ++ [c.pre x]), renV (trId σ c.k nx) 5 (c.res x), sgIds raw ++ (fz ++ bo),
      dropSame H (sgIds σ) nx (renH σ c.k nx (c.heap' x) ++ goneOf σ (ids (c.heap' x)) ++ freeze H fz))
  | _, _ => none
def callAll (c : Ctr) (H : Hp) (k0 nx : Nat) (args : List AV) (x : c.Ix) : Option (List Prop × AV × List Nat × List (Nat × Ob)) :=
  fSg (callRaw c x H args) fun raw => fSg (sgUniq raw []) fun σ => match callMt c x H k0 args σ with
    | some (ps, fz, bo) => fPs ps fun ps => fNs fz fun fz => fNs bo fun bo => callGo c x H k0 nx raw σ ps fz bo
    | none => none
def evalCall (Γ : List (FuncId × Ctr)) (H : Hp) (k0 nx : Nat) (f : FuncId) (args : List AV) : Step :=
  match look Γ f with
  | some c => .call c.Ix (callAll c H k0 nx args)
  | none => .bad

def evalPick : AV → AV → AV → Step
  | .p _ (.bool c), .p _ (.bool x), .p _ (.bool y) => ok1 (isB (cond c x y))
  | .p _ (.bool c), x, y => match c with
    | true => ok1 x
    | false => ok1 y
  | _, _, _ => .bad

/-- What one operation comes to. -/
def evalOp (Γ : List (FuncId × Ctr)) (T : Tab) (k0 : Nat) (o : Oper) (e : Env) (H : Hp) (nx : Nat) : Step :=
  match o.op with
  | .move x => match evalR e x with | some v => ok1 v | none => .bad
  | .assign x => match evalR e x with | some v => ok1 v | none => .bad
  | .pick c a b => match evalR e c, evalR e a, evalR e b with
    | some c, some a, some b => evalPick c a b
    | _, _, _ => .bad
  | .alloc t => match look T t with
    | some d => match d.zero with
      | _ :: _ => .ok [] (some (.ptr nx 0)) [] [(nx, .box (d.zero.map (AV.p true)))]
      | [] => .bad
    | none => .bad
  | .box t x => match look T t, evalR e x with
    | some _, some v => .ok [] (some (.ptr nx 0)) [] [(nx, .box v.cells)]
    | _, _ => .bad
  | .build t parts => match evalParts e parts.toList with
    | some ps => evalBuild T t ps
    | none => .bad
  | .buildSlice t len parts => match evalParts e parts.toList with
    | some ps => evalBuildSlice T H k0 nx t len ps
    | none => .bad
  | .load t a => match evalR e a with
    | some a => evalLoad T H nx t a
    | none => .bad
  | .store t a x => match evalR e a, evalR e x with
    | some a, some v => evalStore T H k0 t a v
    | _, _ => .bad
  | .nilCheck x => match evalR e x with
    | some (.ptr h off) => ok1 (.ptr h off)
    | some (.func f a b) => ok1 (.func f a b)
    | _ => .bad
  | .binOp op t x y _ => match isNilConst y with
    | true => match evalR e x with
      | some a => evalNil T H op t a
      | none => .bad
    | false => match evalR e x, evalR e y with
      | some a, some b => evalBin T op t a b
      | _, _ => .bad
  | .unOp op _ x => match evalR e x with
    | some a => evalUn op a
    | none => .bad
  | .convert s d x => match evalR e x with
    | some a => evalConv T H k0 d s a
    | none => .bad
  | .makeFunc (.func f) first caps => match evalRs e first.toList, evalRs e caps.toList with
    | some a, some b => ok1 (.func f a b)
    | _, _ => .bad
  | .makeSlice t l c => match evalR e l, evalR e c with
    | some l, some c => evalMake T nx t l c
    | _, _ => .bad
  | .slice t x lo hi none => match evalR e x with
    | some x => match lo, hi with
      | none, none => evalSlice T H t x none none
      | some l, none => match evalR e l with
        | some l => evalSlice T H t x (some l) none
        | none => .bad
      | none, some h => match evalR e h with
        | some h => evalSlice T H t x none (some h)
        | none => .bad
      | some l, some h => match evalR e l, evalR e h with
        | some l, some h => evalSlice T H t x (some l) (some h)
        | _, _ => .bad
    | none => .bad
  | .fieldAddr s x f => match evalR e x with
    | some a => evalFieldAddr T H s f a
    | none => .bad
  | .field s x f => match evalR e x with
    | some a => evalField T s f a
    | none => .bad
  | .indexAddr t x ix => match evalR e x, evalR e ix with
    | some a, some b => evalIndexAddr T H t a b
    | _, _ => .bad
  | .index t x ix => match evalR e x, evalR e ix with
    | some a, some b => evalIndex T t a b
    | _, _ => .bad
  | .extract t i => match evalR e t with
    | some (.tuple vs) => match vs[i]? with
      | some v => ok1 v
      | none => .bad
    | _ => .bad
  | .call c => match c.callee with
    | .builtin b => match evalRs e c.args.toList with
      | some args => evalBuiltin T H k0 nx b c.argTypes.toList args
      | none => .bad
    | .value f => match evalR e f, evalRs e c.args.toList with
      | some (.func f first caps), some args => evalCall Γ H k0 nx f (first ++ args ++ caps)
      | _, _ => .bad
    | .invoke _ _ => .bad
  | _ => .bad

structure St where
  env : List (Nat × AV)
  heap : List (Nat × Ob)
  nx : Nat

def nxOf (nx : Nat) : List (Nat × Ob) → Nat
  | [] => nx
  | (i, _) :: r => match Nat.blt i nx with
    | true => nxOf nx r
    | false => nxOf (i + 1) r
def putE (env : List (Nat × AV)) (d : Option Nat) (v : AV) : List (Nat × AV) := match d with
  | some t => (t, v) :: env
  | none => env
def St.next (s : St) (d : Option Nat) (v : Option AV) (ups : List (Nat × Ob)) : St :=
  ⟨putE s.env d (match v with | some v => v | none => .tuple []), ups ++ s.heap, nxOf (s.nx + 1) ups⟩

def fApp {α : Type _} : List (Nat × Ob) → List (Nat × Ob) → (List (Nat × Ob) → α) → α
  | [], b, K => K b
  | x :: r, b, K => fApp r b fun c => K (x :: c)
/-- The state after an operation, written out. -/
def fNext (s : St) (d : Option Nat) (v : AV) (ups : List (Nat × Ob)) (K : St → Prop) : Prop := match s with
  | ⟨env, heap, nx⟩ => match d with
    | some t => fApp ups heap fun h => fNat (nxOf (nx + 1) ups) fun nx => K ⟨(t, v) :: env, h, nx⟩
    | none => fApp ups heap fun h => fNat (nxOf (nx + 1) ups) fun nx => K ⟨env, h, nx⟩

/-- Is an operation wanted? -/
inductive Gd where
  | run
  | skip
  | ask (b want : Bool)
def guardOf (all : List Oper) (o : Oper) (e : Env) : Option Gd := match o.guard with
  | none => some .run
  | some (g, want) => match (all[g]?).bind (·.dst) with
    | some d => match e d with
      | some (.p _ (.bool b)) => some (.ask b want)
      | some (.tuple []) => some .skip
      | _ => none
    | none => none
def ifB (b : Bool) (X Y : Prop) : Prop := match b with
  | true => X
  | false => Y

abbrev Tr := List (List Nat × List Nat)
/-- On to the rest; a trace is kept where the order is drawn. -/
def goOn (dr : Bool) (nx : Nat) (rd : List Nat) (ups : List (Nat × Ob)) (tr : Tr) (K : St → Tr → Prop) (s' : St) : Prop := match dr with
  | true => fNs rd fun rd => K s' ((nx :: rd, ids ups) :: tr)
  | false => K s' []
/-- One operation, then the rest. -/
def awOp (Γ : List (FuncId × Ctr)) (T : Tab) (k0 : Nat) (dr : Bool) (o : Oper) (s : St) (tr : Tr) (K : St → Tr → Prop) : Prop :=
  match s with
  | ⟨env, heap, nx⟩ => match evalOp Γ T k0 o (look env) (look heap) nx with
    | .bad => False
    | .ok c v rd ups => fAV 5 (match v with | some v => v | none => .tuple []) fun v => fUps ups fun ups => match c with
      | [] => fNext ⟨env, heap, nx⟩ o.dst v ups fun s' => goOn dr nx rd ups tr K s'
      | c => allP c ∧ fNext ⟨env, heap, nx⟩ o.dst v ups fun s' => goOn dr nx rd ups tr K s'
    | .dem c _ => match dr with
      | true => False
      | false => ∀ b, c b → fNext ⟨env, heap, nx⟩ o.dst (isB b) [] fun s' => K s' []
    | .call Ix c => ∃ x : Ix, match c x with
      | some (ps, v, rd, ups) => fAV 5 v fun v => fUps ups fun ups => allP ps ∧ fNext ⟨env, heap, nx⟩ o.dst v ups fun s' => goOn dr nx rd ups tr K s'
      | none => False
/-- One that is not wanted. -/
def awSkip (dr : Bool) (o : Oper) (s : St) (tr : Tr) (K : St → Tr → Prop) : Prop := match s with
  | ⟨env, heap, nx⟩ => fNext ⟨env, heap, nx⟩ o.dst (.tuple []) [] fun s' => match dr with
    | true => K s' (([nx], []) :: tr)
    | false => K s' []
def awOps (Γ : List (FuncId × Ctr)) (T : Tab) (k0 : Nat) (all : List Oper) (dr : Bool) : List Oper → St → Tr → (St → Tr → Prop) → Prop
  | [], s, tr, K => K s tr
  | o :: r, s, tr, K => match guardOf all o (look s.env) with
    | none => False
    | some .skip => awSkip dr o s tr (awOps Γ T k0 all dr r · · K)
    | some .run => awOp Γ T k0 dr o s tr (awOps Γ T k0 all dr r · · K)
    | some (.ask b want) => match want with
      | true => ifB b (awOp Γ T k0 dr o s tr (awOps Γ T k0 all dr r · · K)) (awSkip dr o s tr (awOps Γ T k0 all dr r · · K))
      | false => ifB b (awSkip dr o s tr (awOps Γ T k0 all dr r · · K)) (awOp Γ T k0 dr o s tr (awOps Γ T k0 all dr r · · K))

/-- What stands ahead of each operation, as bits. -/
def edgeBits : List Edge → List Nat → Nat
  | [], _ => 0
  | e :: r, B => match Region.binds .any e with
    | true => Nat.lor (Nat.lor (Nat.shiftLeft 1 e.on) (B.getD e.on 0)) (edgeBits r B)
    | false => edgeBits r B
def bitsOf : List Oper → List Nat → List Nat
  | [], B => B
  | o :: r, B => bitsOf r (B ++ [edgeBits o.after.toList B])
def edgesBelow : List Oper → Nat → Bool
  | [], _ => true
  | o :: r, n => (o.after.toList.all fun e => !Region.binds .any e || Nat.blt e.on n) && edgesBelow r (n + 1)
def tmpsIn (all : List Oper) (o : Oper) : List Nat := o.looksAt all.toArray
/-- Two operations that no edge parts touch nothing of one another's. -/
def apartT (all : List Oper) (x y : Oper) : Bool := x.apart all.toArray y
def trOk (all : List Oper) (B : List Nat) (tr : Tr) : Bool :=
  (List.range all.length).all fun j => (List.range j).all fun i =>
    Nat.testBit (B.getD j 0) i ||
      (apartT all (all.getD i default) (all.getD j default) &&
        disj (tr.getD i default).2 ((tr.getD j default).1 ++ (tr.getD j default).2) && disj (tr.getD j default).2 (tr.getD i default).1)
def drawOk (all : List Oper) (tr : Tr) : Bool := edgesBelow all 0 && Nat.beq tr.length all.length && trOk all (bitsOf all []) tr

def condB (s : St) (c : Operand) : Option Bool := match evalR (look s.env) c with
  | some (.p _ (.bool b)) => some b
  | _ => none

/-- One state stands within another: the first one's slots and things are found in the second. -/
def embMtE (σ : Sg) (s : St) (k0 : Nat) : List (Nat × AV) → Mt
  | [] => Mt.ok
  | (t, f) :: r => match look s.env t with
    | some a => Mt.and (mtV σ (look s.heap) k0 false 5 f a) (embMtE σ s k0 r)
    | none => none
def embPairs (s : St) : List (Nat × AV) → Sg
  | [] => []
  | (t, f) :: r => match look s.env t with
    | some a => pairs 5 f a ++ embPairs s r
    | none => embPairs s r
def idSg : Nat → Sg
  | 0 => []
  | n + 1 => idSg n ++ [(n, .full n)]
/-- The things of one's caller keep their numbers. -/
def lentSame (k0 : Nat) : Sg → Bool
  | [] => true
  | (i, t) :: r => (match t with
    | .full h => (Nat.blt i k0 && Nat.beq i h) || (Nat.ble k0 i && Nat.ble k0 h)
    | .trunc h _ => Nat.ble k0 i && Nat.ble k0 h
    | .nil => Nat.ble k0 i) && lentSame k0 r
def embSg (S : St) (s : St) (k0 : Nat) : Sg :=
  sgUniq (chase 4 S.heap (look s.heap) [] ((idSg k0).filter (fun x => memN (ids S.heap) x.1) ++ embPairs s S.env)) []
def embMt (S : St) (s : St) (k0 : Nat) (σ : Sg) : Mt :=
  Mt.and (embMtE σ s k0 S.env) (mtH σ (look s.heap) k0 S.heap)
def emb (full : Bool) (k0 : Nat) (S : St) (s : St) : Prop :=
  fSg (embSg S s k0) fun σ => match embMt S s k0 σ with
  | some (ps, fz, _) => fPs ps fun ps => fNs fz fun fz => match disj (sgIds σ) fz && nodup (sgIds σ) && nodup (ids σ) && sgIn (ids S.heap) σ && rowsOk (look s.heap) fz && lentSame k0 σ && allBelow S.nx (ids S.heap) && nodup (ids S.heap) && Nat.ble k0 S.nx && (!full || allIds (ids S.heap) k0) with
    | true => allP ps
    | false => False
  | none => False

def dstOk (nt : Nat) : List Oper → Bool
  | [] => true
  | o :: r => (match o.dst with
    | some d => Nat.blt d nt
    | none => true) && dstOk nt r

def aw (Γ : List (FuncId × Ctr)) (T : Tab) (k0 nt : Nat) : Code → (Exit → St → Prop) → St → Prop
  | .skip, K, s => K .normal s
  | .label _, K, s => K .normal s
  | .region _ ops dr, K, s => match dstOk nt ops.toList with
    | false => False
    | true => awOps Γ T k0 ops.toList dr ops.toList s [] (fun s' tr => match dr with
      | false => K .normal s'
      | true => drawOk ops.toList tr.reverse = true ∧ K .normal s')
  | .seq a b, K, s => aw Γ T k0 nt a (fun x s' => match x with
      | .normal => aw Γ T k0 nt b K s'
      | x => K x s') s
  | .cond c x y, K, s => match condB s c with
    | some b => ifB b (aw Γ T k0 nt x K s) (aw Γ T k0 nt y K s)
    | none => False
  | .block id c, K, s => aw Γ T k0 nt c (fun x s' => match x with
      | .exit i => match Nat.beq i id with
        | true => K .normal s'
        | false => K (.exit i) s'
      | x => K x s') s
  | .loop c, K, s => ∃ (Ix : Type) (S : Ix → St) (μ : Ix → Nat), (∃ i, emb true k0 (S i) s) ∧ ∀ i, aw Γ T k0 nt c (fun x s' => match x with
      | .normal => ∃ j, μ j < μ i ∧ emb true k0 (S j) s'
      | x => K x s') (S i)
  | .exit id, K, s => K (.exit id) s
  | .ret, K, s => K .ret s
  | .scope c, K, s => aw Γ T k0 nt c (fun x s' => match x with
      | .goto _ => False
      | x => K x s') s
  | _, _, _ => False

def argEnv : Nat → List AV → List (Nat × AV)
  | _, [] => []
  | n, a :: r => (n, a) :: argEnv (n + 1) r

/-- A function's answer: a slot, or what stands in a box. -/
def resOne (T : Tab) (s : St) : ResultVar → Option (List Prop × AV)
  | .tmp t => match look s.env t with
    | some v => some ([], v)
    | none => none
  | .cell q t => match look s.env q with
    | some (.ptr h off) => match look s.heap h, look T t with
      | some (.box cs), some d => match d.isAgg with
        | true => some ([off + d.size ≤ cs.length], .agg ((cs.drop off).take d.size))
        | false => match cs.drop off with
          | v :: _ => some ([], v)
          | [] => none
      | _, _ => none
    | _ => none
def resL (T : Tab) (s : St) : List ResultVar → Option (List Prop × List AV)
  | [] => some ([], [])
  | r :: rs => match resOne T s r, resL T s rs with
    | some (c, v), some (d, vs) => some (c ++ d, v :: vs)
    | _, _ => none
def resAV (T : Tab) (fn : Func) (s : St) : Option (List Prop × AV) :=
  match fn.results.toList with
  | [] => some ([], .tuple [])
  | [r] => resOne T s r
  | l => match resL T s l with
    | some (c, vs) => some (c, .tuple vs)
    | none => none

def retOk (T : Tab) (c : Ctr) (x : c.Ix) (fn : Func) (s : St) : Prop :=
  match resAV T fn s with
  | some (ps, v) => fAV 5 v fun v => match ps with
    | [] => emb false c.k ⟨[(0, c.res x)], c.heap' x, 1000000⟩ ⟨[(0, v)], s.heap, s.nx⟩
    | ps => allP ps ∧ emb false c.k ⟨[(0, c.res x)], c.heap' x, 1000000⟩ ⟨[(0, v)], s.heap, s.nx⟩
  | none => False

def fits : List AV → Nat → Bool
  | [], _ => true
  | _ :: _, 0 => false
  | _ :: r, n + 1 => fits r n
/-- The function's text comes to what its contract says. -/
def Does (Γ : List (FuncId × Ctr)) (T : Tab) (fn : Func) (c : Ctr) : Prop :=
  ∀ x, c.pre x → match fn.body, fits (c.args x) fn.ntmps with
    | some code, true => fEnv (argEnv 0 (c.args x)) fun env => fUps (c.heap x) fun heap => fNat (nxOf c.k heap) fun nx => aw Γ T c.k fn.ntmps code (fun e s => match e with
        | .normal => retOk T c x fn s
        | .ret => retOk T c x fn s
        | _ => False) ⟨env, heap, nx⟩
    | _, _ => False

end Go.Proofs.Ytonbbaimkpjcfaa.Ev
