import Derived.Orders
import Derived.Laws.CopyRow
import Derived.Laws.Cells
import Derived.Laws.Entries
import Derived.Laws.Tables
import Derived.Below
/- A small symbolic machine over the model's code: its words. -/
namespace Go.Am
open Go

/-! ### 1. Types of plain data -/
inductive Ty where
  | int (k : IntKind) | bool | str | sl (e : Ty) | pair (a b : Ty) | unit
  deriving DecidableEq, Inhabited

def Ty.X : Ty → Type
  | .int _ => Int | .bool => Bool | .str => ByteArray | .sl e => List e.X | .pair a b => a.X × b.X | .unit => Unit

def Ty.dflt : (t : Ty) → t.X
  | .int _ => (0 : Int) | .bool => false | .str => ByteArray.empty | .sl e => ([] : List e.X) | .pair a b => (a.dflt, b.dflt) | .unit => ()

def Ty.size : Ty → Nat
  | .pair a b => a.size + b.size | .unit => 0 | _ => 1

/-- no slice inside -/
def Ty.flat : Ty → Bool
  | .sl _ => false | .pair a b => a.flat && b.flat | _ => true

/-! ### 2. Values of the machine -/
inductive T where
  | undef | nov
  | int (k : IntKind) (n : Int)
  | bool (b : Bool)
  | kb (b : Bool)
  | str (s : ByteArray)
  | agg (cs : List T)
  | ro (e : Ty) (xs : List e.X)
  | z
  | ow (id : Nat)
  | ptr (id off : Nat)
  | eptr (id sz i off : Nat)
  | aptr (id i len : Nat)
  | pro (cs : List T) (off : Nat)
  | fn (f : Nat) (caps : List T)
  | tup (ts : List T)
  deriving Inhabited

def enc : (t : Ty) → t.X → List T
  | .int k, n => [.int k n]
  | .bool, b => [.bool b]
  | .str, s => [.str s]
  | .sl e, xs => [.ro e xs]
  | .pair a b, x => enc a x.1 ++ enc b x.2
  | .unit, _ => []

def castX (a b : Ty) (x : List a.X) : Option (List b.X) := if h : a = b then some (h ▸ x) else none

/-- cells read as a typed value: what is left behind it -/
def dec : (t : Ty) → List T → Option (t.X × List T)
  | .int k, .int k' n :: r => if k = k' then some (n, r) else none
  | .bool, .bool b :: r => some (b, r)
  | .bool, .kb b :: r => some (b, r)
  | .str, .str s :: r => some (s, r)
  | .sl e, .ro e' xs :: r => (castX e' e xs).map fun y => (y, r)
  | .sl _, .z :: r => some ([], r)
  | .pair a b, l => match dec a l with
    | some (x, r) => match dec b r with
      | some (y, r') => some ((x, y), r')
      | none => none
    | none => none
  | .unit, l => some ((), l)
  | _, _ => none

/-- blocks of the machine's heap -/
inductive B where
  | none
  | box (cs : List T)
  | row (e : Ty) (xs : List e.X)
  | fro (e : Ty) (xs : List e.X)
  deriving Inhabited

abbrev Heap := Nat → B
def Heap.upd (h : Heap) (i : Nat) (b : B) : Heap := fun j => if j = i then b else h j
def Heap.updAll (h : Heap) : List (Nat × B) → Heap
  | [] => h
  | (i, b) :: r => (h.upd i b).updAll r
def Heap.news (h : Heap) (n : Nat) : List B → Heap
  | [] => h
  | b :: r => (h.upd n b).news (n + 1) r

structure St where
  regs : List T
  heap : Heap
  next : Nat

/-! ### 3. Decision trees -/
inductive DT (α : Type) where
  | ret (a : α) | fail | ite (b : Bool) (t e : DT α)

namespace DT
variable {α β γ : Type}
def bind : DT α → (α → DT β) → DT β
  | ret a, f => f a
  | fail, _ => fail
  | ite b t e, f => ite b (t.bind f) (e.bind f)
def map (f : α → β) (m : DT α) : DT β := m.bind fun a => ret (f a)
def ofOption : Option α → DT α
  | some a => ret a
  | none => fail
/-- a test: a value that is written out is decided at once -/
def guard (b : Bool) (k : DT α) : DT α := ite b k fail
/-- every answer meets Q, and there is one -/
def wp : DT α → (α → Prop) → Prop
  | ret a, Q => Q a
  | fail, _ => False
  | ite b t e, Q => (b = true → t.wp Q) ∧ (b = false → e.wp Q)
end DT

/-! ### 4. Kinds of arguments -/
inductive CK where
  | val (t : Ty) | own (e : Ty)
  deriving DecidableEq, Inhabited
inductive AK where
  | one (c : CK) | agg (cs : List CK) | box (cs : List CK) | fn (g : Nat) (cs : List CK) | fnb (g : Nat) (cs : List CK)
  deriving Inhabited

def CK.X : CK → Type
  | .val t => t.X
  | .own e => List e.X
def CXs : List CK → Type
  | [] => Unit
  | [c] => c.X
  | c :: d :: r => c.X × CXs (d :: r)
def AK.X : AK → Type
  | .one c => c.X
  | .agg cs => CXs cs
  | .box cs => CXs cs
  | .fn _ cs => CXs cs
  | .fnb _ cs => CXs cs
def AXs : List AK → Type
  | [] => Unit
  | [a] => a.X
  | a :: b :: r => a.X × AXs (b :: r)

/-- a cell as it is seen: a row of one's own by what it holds -/
def see (h : Heap) : T → T
  | .ow id => match h id with
    | .row e xs => .ro e xs
    | .fro e xs => .ro e xs
    | _ => .undef
  | t => t
def rowsIn : List T → List Nat
  | [] => []
  | .ow id :: r => id :: rowsIn r
  | _ :: r => rowsIn r

/-- one cell kind off cells: the value, what is left, the ids that are handed over, the ids that were looked at -/
def takeC (h : Heap) : (c : CK) → List T → Option (c.X × List T × List Nat × List Nat)
  | .val t, l => match dec t ((l.take t.size).map (see h)) with
    | some (x, []) => some (x, l.drop t.size, [], rowsIn (l.take t.size))
    | _ => none
  | .own e, .ow id :: r => match h id with
    | .row e' xs => (castX e' e xs).map fun y => (y, r, [id], [])
    | _ => none
  | .own _, .z :: r => some ([], r, [], [])
  | _, _ => none

def takeCs (h : Heap) : (cs : List CK) → List T → Option (CXs cs × List T × List Nat × List Nat)
  | [], l => some ((), l, [], [])
  | [c], l => takeC h c l
  | c :: d :: cs, l => match takeC h c l with
    | some (x, r, i, s) => match takeCs h (d :: cs) r with
      | some (y, r', i', s') => some ((x, y), r', i ++ i', s ++ s')
      | none => none
    | none => none

/-- a function value with one captured pointer -/
def unFn (g : Nat) : T → T
  | .fn g' [u] => if g = g' then u else .undef
  | _ => .undef
def takeA (h : Heap) : (a : AK) → T → Option (a.X × List Nat × List Nat)
  | .one c, t => match takeC h c [t] with
    | some (x, [], i, s) => some (x, i, s)
    | _ => none
  | .agg cs, .agg l => match takeCs h cs l with
    | some (x, [], i, s) => some (x, i, s)
    | _ => none
  | .box cs, .ptr id 0 => match h id with
    | .box l => match takeCs h cs l with
      | some (x, [], i, s) => some (x, id :: i, s)
      | _ => none
    | _ => none
  | .fn g cs, .fn g' l => if g = g' then match takeCs h cs l with
      | some (x, [], i, s) => some (x, i, s)
      | _ => none
    else none
  | .fnb g cs, t => match unFn g t with
    | .ptr id 0 => match h id with
      | .box l => match takeCs h cs l with
        | some (x, [], i, s) => some (x, id :: i, s)
        | _ => none
      | _ => none
    | _ => none
  | _, _ => none

def takeAs (h : Heap) : (as : List AK) → List T → Option (AXs as × List Nat × List Nat)
  | [], [] => some ((), [], [])
  | [a], [t] => takeA h a t
  | a :: b :: as, t :: u :: ts => match takeA h a t with
    | some (x, i, s) => match takeAs h (b :: as) (u :: ts) with
      | some (y, i', s') => some ((x, y), i ++ i', s ++ s')
      | none => none
    | none => none
  | _, _ => none

/-- the other way: cells and new blocks (numbered from n on) -/
def putC (n : Nat) : (c : CK) → c.X → List T × List B
  | .val t, x => (enc t x, [])
  | .own e, xs => ([.ow n], [.row e xs])
def putCs (n : Nat) : (cs : List CK) → CXs cs → List T × List B
  | [], _ => ([], [])
  | [c], x => putC n c x
  | c :: d :: cs, x =>
    let p := putC n c x.1
    let q := putCs (n + p.2.length) (d :: cs) x.2
    (p.1 ++ q.1, p.2 ++ q.2)
def putA (n : Nat) : (a : AK) → a.X → T × List B
  | .one c, x => let p := putC n c x; (p.1.headD .undef, p.2)
  | .agg cs, x => let p := putCs n cs x; (.agg p.1, p.2)
  | .box cs, x => let p := putCs (n + 1) cs x; (.ptr n 0, .box p.1 :: p.2)
  | .fn g cs, x => let p := putCs n cs x; (.fn g p.1, p.2)
  | .fnb g cs, x => let p := putCs (n + 1) cs x; (.fn g [.ptr n 0], .box p.1 :: p.2)
def putAs (n : Nat) : (as : List AK) → AXs as → List T × List B
  | [], _ => ([], [])
  | [a], x => let p := putA n a x; ([p.1], p.2)
  | a :: b :: as, x =>
    let p := putA n a x.1
    let q := putAs (n + p.2.length) (b :: as) x.2
    (p.1 :: q.1, p.2 ++ q.2)

/-! ### 5. What the machine is told: types, contracts, loops -/
inductive TK where
  | int (k : IntKind) | bool | str | slice (elem : Nat) | struct (fs : List (Nat × Nat)) | array (n elem : Nat) | other
  deriving DecidableEq, Inhabited
structure TI where
  size : Nat
  bytes : Nat
  kind : TK
  zero : List T
  ty : Ty
  deriving Inhabited
def aggK : TK → Bool
  | .struct _ => true | .array _ _ => true | _ => false
def TI.isAgg (i : TI) : Bool := aggK i.kind

/-- A contract: parameters' kinds; which of them (boxes, rows) are handed back; the answer. -/
abbrev Res (ps : List AK) (us : List Nat) (rs : List AK) : Type := AXs rs × AXs (us.map fun i => ps.getD i (.one (.val .unit)))
structure Con where
  ps : List AK
  us : List Nat
  rs : List AK
  F : AXs ps → DT (Res ps us rs)
/-- A loop's: the registers that live at its head, what it comes to: on behind it, or a return. -/
structure LC where
  keep : List (Nat × AK)
  ret : List (Nat × AK)
  F : AXs (keep.map (·.2)) → DT (AXs (keep.map (·.2)) ⊕ AXs (ret.map (·.2)))
structure Ctx where
  ti : Nat → Option TI
  eqs : Nat → Bool
  con : Nat → List Nat → Option Con
  loop : Nat → Option LC

end Go.Am

/- A small symbolic machine over the model's code: its steps. -/
namespace Go.Am
open Go

/-! ### 1. Operands -/
def ofLeaf : Value → T
  | .bool b => .kb b
  | .int k n => .int k n
  | .string s => .str s
  | .slice none 0 0 => .z
  | _ => .undef
def ofVal : Value → T
  | .agg cs => .agg (cs.toList.map ofLeaf)
  | v => ofLeaf v
def opv (r : List T) : Operand → T
  | .tmp t => r.getD t .undef
  | .const v => ofVal v
  | .func f => .fn f []
  | .global _ => .undef
def isLit : Operand → Bool
  | .const _ => true
  | _ => false

/-- a test on what is written out, or on what is not -/
def test {α : Type} (lit : Bool) (b : Bool) (k : DT α) : DT α := if lit then (match b with | true => k | false => .fail) else .ite b k .fail
/-- a truth value -/
def onBool {α : Type} (t : T) (k : Bool → DT α) : DT α :=
  match t with
  | .kb b => match b with
    | true => k true
    | false => k false
  | .bool b => .ite b (k true) (k false)
  | _ => .fail
def onBool? {α : Type} (t : T) (k : Bool → DT α) (nov : DT α) : DT α :=
  match t with
  | .nov => nov
  | t => onBool t k

/-! ### 2. Plain operations -/
def sAt (s : ByteArray) (i : Int) : Int := (s.data.toList.getD i.toNat 0).toNat
def bitsOf (op : BinOp) (k : IntKind) (x y : Int) : Int :=
  let a := BitVec.ofInt k.bits x
  let b := BitVec.ofInt k.bits y
  match op with
  | .and => k.wrap (a &&& b).toNat
  | .or => k.wrap (a ||| b).toNat
  | .xor => k.wrap (a ^^^ b).toNat
  | _ => k.wrap (a &&& ~~~b).toNat
def shOf (op : BinOp) (k : IntKind) (x y : Int) : Int :=
  match op with
  | .shl => k.wrap (x * 2 ^ (min y.toNat k.bits))
  | _ => x.fdiv (2 ^ (min y.toNat k.bits))
def seqb (x y : ByteArray) : Bool := x.toList == y.toList
def slt (x y : ByteArray) : Bool := Op.bytesLess x.toList y.toList
/-- two leaves alike -/
def leafEq : T → T → Option Bool
  | .int k a, .int k' b => if k = k' then some (a == b) else none
  | .str a, .str b => some (seqb a b)
  | .bool a, .bool b => some (a == b)
  | .bool a, .kb b => some (a == b)
  | .kb a, .bool b => some (a == b)
  | .kb a, .kb b => some (a == b)
  | _, _ => none
def leavesEq : List T → List T → Option Bool
  | [], [] => some true
  | [a], [b] => leafEq a b
  | a :: r, b :: s => match leafEq a b with
    | some x => (leavesEq r s).map fun y => x && y
    | none => none
  | _, _ => none
def boolEq : T → T → Option Bool
  | .bool a, .bool b => some (a == b)
  | .bool a, .kb b => some (a == b)
  | .kb a, .bool b => some (a == b)
  | .kb a, .kb b => some (a == b)
  | _, _ => none
/-- leaf types that '==' looks at: whole numbers, strings, bools, structs of these -/
def eqTy : Ty → Bool
  | .int _ => true | .bool => true | .str => true | .pair a b => eqTy a && eqTy b | .unit => false | .sl _ => false

/-- cells of the kinds that a type's zero has -/
def sameK : List T → List T → Bool
  | [], [] => true
  | .int k _ :: r, .int k' _ :: s => decide (k = k') && sameK r s
  | .kb _ :: r, .bool _ :: s => sameK r s
  | .kb _ :: r, .kb _ :: s => sameK r s
  | .str _ :: r, .str _ :: s => sameK r s
  | _, _ => false
def fitsK (z : List T) : T → Bool
  | .agg cs => sameK z cs
  | _ => false
def binT (kd : TK) (seq : Bool) (lit : Bool) (op : BinOp) (x y : T) : DT T :=
  match op, x, y with
  | .shl, .int k a, .int _ b => test lit (decide (0 ≤ b)) (.ret (.int k (shOf .shl k a b)))
  | .shr, .int k a, .int _ b => test lit (decide (0 ≤ b)) (.ret (.int k (shOf .shr k a b)))
  | op, .int k a, .int k' b =>
    if k = k' then
      match op with
      | .add => .ret (.int k (k.wrap (a + b)))
      | .sub => .ret (.int k (k.wrap (a - b)))
      | .mul => .ret (.int k (k.wrap (a * b)))
      | .quo => test lit (decide (b ≠ 0)) (.ret (.int k (k.wrap (a.tdiv b))))
      | .rem => test lit (decide (b ≠ 0)) (.ret (.int k (a.tmod b)))
      | .and => .ret (.int k (bitsOf .and k a b))
      | .or => .ret (.int k (bitsOf .or k a b))
      | .xor => .ret (.int k (bitsOf .xor k a b))
      | .andNot => .ret (.int k (bitsOf .andNot k a b))
      | .eql => .ret (.bool (a == b))
      | .neq => .ret (.bool (a != b))
      | .lss => .ret (.bool (decide (a < b)))
      | .leq => .ret (.bool (decide (a ≤ b)))
      | .gtr => .ret (.bool (decide (a > b)))
      | .geq => .ret (.bool (decide (a ≥ b)))
      | _ => .fail
    else .fail
  | op, .str a, .str b =>
    match op with
    | .add => .ite (decide (a.size + b.size ≤ 140737488355328)) (.ret (.str (a ++ b))) .fail
    | .eql => .ret (.bool (seqb a b))
    | .neq => .ret (.bool (!seqb a b))
    | .lss => .ret (.bool (slt a b))
    | .leq => .ret (.bool (slt a b || seqb a b))
    | .gtr => .ret (.bool (!(slt a b || seqb a b)))
    | .geq => .ret (.bool (!slt a b))
    | _ => .fail
  | .eql, .agg a, .agg b => match seq, leavesEq a b with
    | true, some r => .ret (.bool r)
    | _, _ => .fail
  | .neq, .agg a, .agg b => match seq, leavesEq a b with
    | true, some r => .ret (.bool (!r))
    | _, _ => .fail
  | .eql, a, b => match kd, boolEq a b with
    | .bool, some r => .ret (.bool r)
    | _, _ => .fail
  | .neq, a, b => match kd, boolEq a b with
    | .bool, some r => .ret (.bool (!r))
    | _, _ => .fail
  | _, _, _ => .fail

def unT (op : UnOp) (x : T) : DT T :=
  match op, x with
  | .not, .bool b => .ret (.bool (!b))
  | .not, .kb b => .ret (.kb (!b))
  | .neg, .int k n => .ret (.int k (k.wrap (0 - n)))
  | _, _ => .fail

/-! ### 3. Memory -/
/-- a cell's value may stand in memory -/
def T.cellOk : T → Bool
  | .undef | .nov | .agg _ | .tup _ => false
  | _ => true
def T.cells : T → List T
  | .agg cs => cs
  | t => [t]
def oneOr (agg : Bool) (cs : List T) : T := if agg then .agg cs else cs.headD .undef
def strsOf : List T → Option (List ByteArray)
  | [] => some []
  | .str s :: r => (strsOf r).map fun l => s :: l
  | _ => none
def splice (l : List T) (off : Nat) (v : List T) : List T := l.take off ++ v ++ l.drop (off + v.length)
def elemsOf (e : Ty) : Nat → List T → Option (List e.X)
  | 0, [] => some []
  | 0, _ => none
  | n + 1, l => match dec e l with
    | some (x, r) => (elemsOf e n r).map fun xs => x :: xs
    | none => none
/-- rows that are put into memory that others may read: they are written no more -/
def frz : B → B
  | .row e xs => .fro e xs
  | b => b
def fz (h : Heap) : List Nat → List (Nat × B)
  | [] => []
  | i :: r => (i, frz (h i)) :: fz h r

structure Eff where
  dst : T
  wr : List (Nat × B) := []
  nw : List B := []

def lenT (h : Heap) (t : T) : Option Int :=
  match t with
  | .str s => some s.size
  | .ro _ xs => some xs.length
  | .z => some 0
  | .ow id => match h id with
    | .row _ xs => some xs.length
    | .fro _ xs => some xs.length
    | _ => none
  | _ => none

def loadT (i : TI) (h : Heap) (p : T) : DT T :=
  match p with
  | .ptr id off => match h id with
    | .box cs => if off + i.size ≤ cs.length then .ret (oneOr i.isAgg ((cs.drop off).take i.size)) else .fail
    | _ => .fail
  | .eptr id sz n off => match h id with
    | .row e xs =>
      if e.size = sz ∧ off + i.size ≤ sz then .ret (oneOr i.isAgg (((enc e (xs.getD n e.dflt)).drop off).take i.size)) else .fail
    | .fro e xs =>
      if e.size = sz ∧ off + i.size ≤ sz then .ret (oneOr i.isAgg (((enc e (xs.getD n e.dflt)).drop off).take i.size)) else .fail
    | _ => .fail
  | .pro cs off => if off + i.size ≤ cs.length then .ret (oneOr i.isAgg ((cs.drop off).take i.size)) else .fail
  | .aptr id n len => match h id with
    | .box cs => match decide (len ≤ cs.length), i.isAgg, i.size, strsOf cs with
      | true, false, 1, some ss => .ret (.str (ss.getD n ByteArray.empty))
      | _, _, _, _ => .fail
    | _ => .fail
  | _ => .fail

def storeT (i : TI) (h : Heap) (p v : T) : DT Eff :=
  if v.cells.length = i.size ∧ v.cells.all T.cellOk then
    match p with
    | .ptr id off => match h id with
      | .box cs => if off + i.size ≤ cs.length then .ret { dst := .nov, wr := [(id, .box (splice cs off v.cells))] } else .fail
      | _ => .fail
    | .eptr id sz n off => match h id with
      | .row e xs =>
        if e.size = sz ∧ off + i.size ≤ sz ∧ (rowsIn v.cells).contains id = false then
          match dec e (splice (enc e (xs.getD n e.dflt)) off (v.cells.map (see h))) with
          | some (x, []) => .ret { dst := .nov, wr := fz h (rowsIn v.cells) ++ [(id, .row e (xs.set n x))] }
          | _ => .fail
        else .fail
      | _ => .fail
    | _ => .fail
  else .fail

def offT (p : T) (n : Nat) : Option T :=
  match p with
  | .ptr id off => some (.ptr id (off + n))
  | .eptr id sz i off => some (.eptr id sz i (off + n))
  | .pro cs off => some (.pro cs (off + n))
  | _ => none

def elemT (C : Ctx) (t : Nat) : Option TI :=
  match C.ti t with
  | some i => match i.kind with
    | .slice el => C.ti el
    | _ => none
  | none => none
def indexAddrT (C : Ctx) (h : Heap) (t : Nat) (x ix : T) : DT Eff :=
  match ix with
  | .int _ n => match x with
    | .ro e xs => match elemT C t with
      | some j => if j.size = e.size then .ite (decide (0 ≤ n ∧ n < (xs.length : Int))) (.ret { dst := .pro (enc e (xs.getD n.toNat e.dflt)) 0 }) .fail else .fail
      | none => .fail
    | .ow id => match elemT C t with
      | some j => match h id with
        | .row e xs => if j.size = e.size then .ite (decide (0 ≤ n ∧ n < (xs.length : Int))) (.ret { dst := .eptr id e.size n.toNat 0 }) .fail else .fail
        | .fro e xs => if j.size = e.size then .ite (decide (0 ≤ n ∧ n < (xs.length : Int))) (.ret { dst := .pro (enc e (xs.getD n.toNat e.dflt)) 0 }) .fail else .fail
        | _ => .fail
      | none => .fail
    | .ptr id 0 => match C.ti t with
      | some i => match i.kind with
        | .array len el => match C.ti el with
          | some j => if j.size = 1 then .ite (decide (0 ≤ n ∧ n < (len : Int))) (.ret { dst := .aptr id n.toNat len }) .fail else .fail
          | none => .fail
        | _ => .fail
      | none => .fail
    | _ => .fail
  | _ => .fail

def optInt (t : Option T) (d : Int) : Option Int :=
  match t with
  | none => some d
  | some (.int _ n) => some n
  | _ => none

def litZero (lo hi mx : Option T) : Bool :=
  match lo, hi, mx with
  | none, some (.int _ r), some (.int _ m) => decide (r = 0 ∧ m = 0)
  | some (.int _ l), some (.int _ r), some (.int _ m) => decide (l = 0 ∧ r = 0 ∧ m = 0)
  | _, _, _ => false
/-- a slice's part, read alone -/
def partT (e : Ty) (xs : List e.X) (lo hi mx : Option T) (wr : List (Nat × B)) : DT Eff :=
  match mx with
  | none => match optInt lo 0, optInt hi xs.length with
    | some l, some r => .ite (decide (0 ≤ l ∧ l ≤ r ∧ r ≤ (xs.length : Int))) (.ret { dst := .ro e ((xs.take r.toNat).drop l.toNat), wr := wr }) .fail
    | _, _ => .fail
  | some _ => match litZero lo hi mx with
    | true => .ret { dst := .z }
    | false => .fail
def sliceT (C : Ctx) (h : Heap) (t : Nat) (x : T) (lo hi mx : Option T) : DT Eff :=
  match x with
  | .str s => match C.ti t, mx with
    | some i, none => match i.kind, optInt lo 0, optInt hi s.size with
      | .str, some l, some r => .ite (decide (0 ≤ l ∧ l ≤ r ∧ r ≤ (s.size : Int))) (.ret { dst := .str (s.extract l.toNat r.toNat) }) .fail
      | _, _, _ => .fail
    | _, _ => .fail
  | .ro e xs => match elemT C t with
    | some j => if j.size = e.size then partT e xs lo hi mx [] else .fail
    | none => .fail
  | .ow id => match elemT C t with
    | some j => match h id with
      | .row e xs => if j.size = e.size then partT e xs lo hi mx (fz h [id]) else .fail
      | .fro e xs => if j.size = e.size then partT e xs lo hi mx [] else .fail
      | _ => .fail
    | none => .fail
  | .z => match elemT C t with
    | some _ => match mx with
      | none => match lo, hi with
        | none, none => .ret { dst := .z }
        | _, _ => .fail
      | some _ => match litZero lo hi mx with
        | true => .ret { dst := .z }
        | false => .fail
    | none => .fail
  | _ => .fail

def fillT (place : Nat → Option (Nat × Nat)) (cs : List T) : List (Nat × T) → Option (List T)
  | [] => some cs
  | (i, v) :: r => match place i with
    | some (off, size) => if v.cells.length = size ∧ off + size ≤ cs.length then fillT place (splice cs off v.cells) r else none
    | none => none
def sizeT (C : Ctx) (t : Nat) : Option Nat := (C.ti t).map (·.size)
def repT (z : List T) : Nat → List T
  | 0 => []
  | n + 1 => z ++ repT z n
def buildT (C : Ctx) (t : Nat) (parts : List (Nat × T)) : DT T :=
  match C.ti t with
  | some i =>
    if i.zero.length = i.size ∧ 0 < i.size then
      match i.kind with
      | .struct fs => if fs.all (fun f => (C.ti f.2).isSome) then
          match fillT (fun j => match fs[j]? with | some f => (sizeT C f.2).map fun s => (f.1, s) | none => none) i.zero parts with
          | some cs => .ret (.agg cs)
          | none => .fail
        else .fail
      | .array _ el => match sizeT C el with
        | some s => match fillT (fun j => some (j * s, s)) i.zero parts with
          | some cs => .ret (.agg cs)
          | none => .fail
        | none => .fail
      | _ => .fail
    else .fail
  | none => .fail
def buildSliceT (C : Ctx) (h : Heap) (t len : Nat) (parts : List (Nat × T)) (base : Nat) : DT Eff :=
  match elemT C t with
  | some j =>
    if len * j.size ≤ 16777216 ∧ j.zero.length = j.size ∧ 0 < j.size ∧ j.ty.size = j.size then
      match fillT (fun q => some (q * j.size, j.size)) (repT j.zero len) parts with
      | some cs => if cs.all T.cellOk then
          match elemsOf j.ty len (cs.map (see h)) with
          | some xs => .ret { dst := .ow base, wr := fz h (rowsIn cs), nw := [.row j.ty xs] }
          | none => .fail
        else .fail
      | none => .fail
    else .fail
  | none => .fail

/-- a type's zero value, cell by cell, is what the typed zero says -/
def zeroOk (j : TI) : Bool := leavesEq' j.zero (enc j.ty j.ty.dflt)
where leavesEq' : List T → List T → Bool
  | [], [] => true
  | .int k a :: r, .int k' b :: s => k == k' && a == b && leavesEq' r s
  | .kb a :: r, .bool b :: s => a == b && leavesEq' r s
  | .str a :: r, .str b :: s => a.data.toList == [] && b.data.toList == [] && leavesEq' r s
  | .z :: r, .ro _ xs :: s => xs.length == 0 && leavesEq' r s
  | _, _ => false
def makeSliceT (C : Ctx) (t : Nat) (len cap : T) (base : Nat) : DT Eff :=
  match len, cap, elemT C t with
  | .int .i64 l, .int .i64 c, some j =>
    if zeroOk j ∧ j.zero.length = j.size ∧ 0 < j.size ∧ j.ty.size = j.size ∧ 0 < j.bytes then
      .ite (decide (0 ≤ l ∧ l ≤ c ∧ c * j.bytes ≤ 140737488355328)) (.ret { dst := .ow base, nw := [.row j.ty (List.replicate l.toNat j.ty.dflt)] }) .fail
    else .fail
  | _, _, _ => .fail

/-- what is appended: a slice's elements, or a string's bytes -/
def addT (h : Heap) (e : Ty) (x : T) : Option (List e.X) :=
  match x with
  | .ro e' ys => castX e' e ys
  | .z => some []
  | .ow id => match h id with
    | .row e' ys => castX e' e ys
    | .fro e' ys => castX e' e ys
    | _ => none
  | .str s => castX (.int .u8) e (s.data.toList.map fun b => (b.toNat : Int))
  | _ => none
def noInt : TK → Bool
  | .int _ => false
  | _ => true
def isOw (id : Nat) : T → Bool
  | .ow j => j == id
  | _ => false
def appendT (C : Ctx) (h : Heap) (tys : List Nat) (s x : T) (base : Nat) : DT Eff :=
  match tys with
  | [t, u] => match C.ti u, elemT C t with
    | some iu, some j =>
      if noInt iu.kind ∧ 0 < j.size ∧ 0 < j.bytes ∧ j.ty.size = j.size ∧ j.zero.length = j.size then
        match addT h j.ty x with
        | some ys => match s with
          | .z => .ite (decide (ys.length * j.bytes ≤ 140737488355328)) (.ret { dst := .ow base, nw := [.row j.ty ys] }) .fail
          | .ow id => match h id with
            | .row e xs => match castX e j.ty xs with
              | some xs => if isOw id x then .fail else
                .ite (decide ((xs.length + ys.length) * j.bytes ≤ 140737488355328)) (.ret { dst := .ow base, wr := [(id, .none)], nw := [.row j.ty (xs ++ ys)] }) .fail
              | none => .fail
            | _ => .fail
          | _ => .fail
        | none => .fail
      else .fail
    | _, _ => .fail
  | _ => .fail

def minT (a b : T) : Option T := match a, b with
  | .int k x, .int k' y => if k = k' then some (.int k (if y < x then y else x)) else none
  | _, _ => none
def maxT (a b : T) : Option T := match a, b with
  | .int k x, .int k' y => if k = k' then some (.int k (if y > x then y else x)) else none
  | _, _ => none

def lenK : TK → T → Bool
  | .str, .str _ => true
  | .slice _, .str _ => false
  | .slice _, _ => true
  | _, _ => false
def builtinT (C : Ctx) (h : Heap) (b : Builtin) (tys : List Nat) (args : List T) (base : Nat) : DT Eff :=
  match b, args with
  | .len, [x] => match tys with
    | [t] => match C.ti t with
      | some i => if lenK i.kind x then match lenT h x with
          | some n => .ret { dst := .int .i64 n }
          | none => .fail
        else .fail
      | none => .fail
    | _ => .fail
  | .append, [s, x] => appendT C h tys s x base
  | .min, [a, b] => match minT a b with
    | some t => .ret { dst := t }
    | none => .fail
  | .max, [a, b] => match maxT a b with
    | some t => .ret { dst := t }
    | none => .fail
  | _, _ => .fail

def fnsIn : List T → List Nat
  | [] => []
  | .fn g _ :: r => g :: fnsIn r
  | _ :: r => fnsIn r
def CK.plain : CK → Bool
  | .val t => t.flat
  | .own e => e.flat
def AK.plain : AK → Bool
  | .one c => c.plain | .agg cs => cs.all CK.plain | .box cs => cs.all CK.plain | .fn _ cs => cs.all CK.plain | .fnb _ cs => cs.all CK.plain
/-- the results' value out of their parts -/
def tupT : List T → T
  | [t] => t
  | ts => .tup ts

/-- what stands in a box or a row that was handed back -/
def backC (id : Nat) : (c : CK) → c.X → List (Nat × B) := fun c x => match c, x with
  | .own e, xs => [(id, .row e xs)]
  | .val _, _ => []
/-- the writes at parameters that are handed back: an own row itself, or a box of plain cells -/
def backA (t : T) : (a : AK) → a.X → Option (List (Nat × B))
  | .one (.own e), xs => match t with
    | .ow id => some [(id, .row e xs)]
    | _ => none
  | .box [.val ty], x => match t with
    | .ptr id 0 => some [(id, .box (enc ty x))]
    | _ => none
  | .fnb g [.val ty], x => match unFn g t with
    | .ptr id 0 => some [(id, .box (enc ty x))]
    | _ => none
  | _, _ => none
def backAs (ps : List AK) (ts : List T) : (us : List Nat) → AXs (us.map fun i => ps.getD i (.one (.val .unit))) → Option (List (Nat × B))
  | [], _ => some []
  | [i], x => backA (ts.getD i .undef) (ps.getD i (.one (.val .unit))) x
  | i :: j :: us, x => match backA (ts.getD i .undef) (ps.getD i (.one (.val .unit))) x.1 with
    | some l => (backAs ps ts (j :: us) x.2).map fun r => l ++ r
    | none => none
def kill : List Nat → List (Nat × B)
  | [] => []
  | i :: r => (i, .none) :: kill r
def nodupB : List Nat → Bool
  | [] => true
  | i :: r => !r.contains i && nodupB r

def callT (C : Ctx) (h : Heap) (f : T) (args : List T) (base : Nat) : DT Eff :=
  match f with
  | .fn g caps =>
    let ts := args ++ caps
    match C.con g (fnsIn ts) with
    | some c => match takeAs h c.ps ts with
      | some (x, own, seen) =>
        if nodupB own && seen.all (fun i => !own.contains i) && nodupB c.us then
          (c.F x).bind fun r =>
            let p := putAs base c.rs r.1
            match backAs c.ps ts c.us r.2 with
            | some back => .ret { dst := tupT p.1, wr := (if c.rs.all AK.plain && c.us.all (fun i => (c.ps.getD i (.one (.val .unit))).plain) then [] else fz h seen) ++ kill own ++ back, nw := p.2 }
            | none => .fail
        else .fail
      | none => .fail
    | none => .fail
  | _ => .fail

def fieldAddrT (C : Ctx) (t : Nat) (x : T) (f : Nat) : DT Eff :=
  match C.ti t with
  | some i => match i.kind with
    | .struct fs => match fs[f]? with
      | some (off, ft) => match C.ti ft with
        | some j => if j.size = 0 then .fail else match offT x off with
          | some t => .ret { dst := t }
          | none => .fail
        | none => .fail
      | none => .fail
    | _ => .fail
  | none => .fail
def fieldT (C : Ctx) (t : Nat) (x : T) (f : Nat) : DT T :=
  match C.ti t with
  | some i => match i.kind, x with
    | .struct fs, .agg cs => match fs[f]? with
      | some (off, ft) => match C.ti ft with
        | some j => if off + j.size ≤ cs.length ∧ (j.isAgg || j.size == 1) = true then .ret (oneOr j.isAgg ((cs.drop off).take j.size)) else .fail
        | none => .fail
      | none => .fail
    | _, _ => .fail
  | none => .fail
def indexT (C : Ctx) (t : Nat) (x ix : T) : DT T :=
  match C.ti t with
  | some i => match i.kind, x, ix with
    | .str, .str s, .int _ n => .ite (decide (0 ≤ n ∧ n < (s.size : Int))) (.ret (.int .u8 (sAt s n))) .fail
    | _, _, _ => .fail
  | none => .fail
def convT (C : Ctx) (s d : Nat) (x : T) : DT T :=
  match C.ti s, C.ti d with
  | some i, some j => match i.kind, j.kind, x with
    | _, .int k, .int _ n => .ret (.int k (k.wrap n))
    | .str, .str, .str s => .ret (.str s)
    | _, _, _ => .fail
  | _, _ => .fail

/-- one operation -/
def opT (C : Ctx) (r : List T) (h : Heap) (base : Nat) (o : Oper) : DT Eff :=
  let ρ := opv r
  let one (m : DT T) : DT Eff := m.bind fun t => .ret { dst := t }
  match o.op with
  | .move x => .ret { dst := ρ x }
  | .assign x => .ret { dst := ρ x }
  | .pick c a b => onBool (ρ c) fun q => .ret { dst := if q then ρ a else ρ b }
  | .alloc t => match C.ti t with
    | some i => if i.zero.length = i.size ∧ 0 < i.size then .ret { dst := .ptr base 0, nw := [.box i.zero] } else .fail
    | none => .fail
  | .box t x => match C.ti t with
    | some _ => if (ρ x).cells.all T.cellOk then .ret { dst := .ptr base 0, nw := [.box (ρ x).cells] } else .fail
    | none => .fail
  | .build t ps => if ps.toList.all (fun p => (ρ p.2).cells.all T.cellOk) then one (buildT C t (ps.toList.map fun p => (p.1, ρ p.2))) else .fail
  | .buildSlice t n ps => if ps.toList.all (fun p => (ρ p.2).cells.all T.cellOk) then buildSliceT C h t n (ps.toList.map fun p => (p.1, ρ p.2)) base else .fail
  | .load t a => match C.ti t with
    | some i => if i.isAgg || i.size == 1 then one (loadT i h (ρ a)) else .fail
    | none => .fail
  | .store t a v => match C.ti t with
    | some i => storeT i h (ρ a) (ρ v)
    | none => .fail
  | .nilCheck x => match ρ x with
    | .ptr id off => .ret { dst := .ptr id off }
    | .fn g cs => .ret { dst := .fn g cs }
    | _ => .fail
  | .binOp op t x y _ => match C.ti t with
    | some i => one (binT i.kind (C.eqs t && fitsK i.zero (ρ x) && fitsK i.zero (ρ y)) (isLit y) op (ρ x) (ρ y))
    | none => .fail
  | .unOp op _ x => one (unT op (ρ x))
  | .convert s d x => one (convT C s d (ρ x))
  | .makeFunc (.func g) first cs => if first.size = 0 then .ret { dst := .fn g (cs.toList.map ρ) } else .fail
  | .makeSlice t l c => makeSliceT C t (ρ l) (ρ c) base
  | .slice t x lo hi mx => sliceT C h t (ρ x) (lo.map ρ) (hi.map ρ) (mx.map ρ)
  | .fieldAddr t x f => fieldAddrT C t (ρ x) f
  | .field t x f => one (fieldT C t (ρ x) f)
  | .indexAddr t x i => indexAddrT C h t (ρ x) (ρ i)
  | .index t x i => one (indexT C t (ρ x) (ρ i))
  | .extract t i => match ρ t with
    | .tup ts => match ts[i]? with
      | some t => .ret { dst := t }
      | none => .fail
    | _ => .fail
  | .call c => match c.callee with
    | .builtin b => builtinT C h b c.argTypes.toList (c.args.toList.map ρ) base
    | .value f => callT C h (ρ f) (c.args.toList.map ρ) base
    | .invoke _ _ => .fail
  | _ => .fail

/-! ### 4. What an operation may look at -/
mutual
def T.ids : T → List Nat
  | .ow i => [i] | .ptr i _ => [i] | .eptr i _ _ _ => [i] | .aptr i _ _ => [i]
  | .agg cs => idsAll cs | .pro cs _ => idsAll cs | .fn _ cs => idsAll cs | .tup ts => idsAll ts
  | _ => []
def idsAll : List T → List Nat
  | [] => []
  | t :: r => t.ids ++ idsAll r
end
def B.ids : B → List Nat
  | .box cs => idsAll cs
  | _ => []
def looks (h : Heap) (ts : List T) : List Nat :=
  let a := idsAll ts
  a ++ a.flatMap fun i => (h i).ids
/-- operations that come by without memory -/
def still : Op → Bool
  | .move _ | .assign _ | .pick .. | .build .. | .nilCheck _ | .binOp .. | .unOp .. | .convert .. | .makeFunc .. | .fieldAddr .. | .field .. | .index .. | .extract .. | .alloc _ | .box .. => true
  | _ => false
def sees (h : Heap) (r : List T) (o : Oper) : List Nat := if still o.op then [] else looks h (o.op.operands.toList.map (opv r))
def restrict (h : Heap) (l : List Nat) : Heap := fun j => if l.contains j then h j else .none

/-- what an operation saw and what it wrote -/
structure FP where
  seen : List Nat
  wrote : List Nat

def stride : Nat := 32
/-- an operation whose answer is a guard: it is decided at once -/
def guards (ops : List Oper) (i : Nat) : Bool := ops.any fun o => match o.guard with | some (j, _) => j == i | none => false
def settle {α : Type} (g : Bool) (t : T) (k : T → DT α) : DT α := if g then onBool t fun b => k (.kb b) else k t

def setDst (r : List T) (d : Option Nat) (t : T) : List T :=
  match d with
  | some d => r.set d t
  | none => r

def stepT (C : Ctx) (ops : List Oper) (base i : Nat) (st : St) : DT (St × FP) :=
  match ops[i]? with
  | none => .fail
  | some o =>
    let go : DT (St × FP) :=
      let l := sees st.heap st.regs o
      (opT C st.regs (restrict st.heap l) (base + stride * i) o).bind fun e =>
        let w := e.wr.map (·.1)
        if w.all l.contains && decide (e.nw.length ≤ stride) then
          settle (guards ops i) e.dst fun t =>
            .ret ({ st with regs := setDst st.regs o.dst t, heap := (st.heap.updAll e.wr).news (base + stride * i) e.nw }, ⟨l, w ++ (List.range e.nw.length).map (base + stride * i + ·)⟩)
        else .fail
    match o.guard with
    | none => go
    | some (j, want) => match (ops[j]?).bind (·.dst) with
      | some d => match st.regs.getD d .undef with
        | .kb b => if b = want then go else .ret ({ st with regs := setDst st.regs o.dst .nov }, ⟨[], []⟩)
        | .nov => .ret ({ st with regs := setDst st.regs o.dst .nov }, ⟨[], []⟩)
        | _ => .fail
      | none => .fail

def stepsT (C : Ctx) (ops : List Oper) (base : Nat) : List Nat → St → DT (St × List (Nat × FP))
  | [], st => .ret (st, [])
  | i :: r, st => (stepT C ops base i st).bind fun p => (stepsT C ops base r p.1).bind fun q => .ret (q.1, (i, p.2) :: q.2)

/-- a step where the order is that of the text: nobody asks what it looks at -/
def stepP (C : Ctx) (ops : List Oper) (base i : Nat) (st : St) : DT St :=
  match ops[i]? with
  | none => .fail
  | some o =>
    let go : DT St :=
      (opT C st.regs st.heap (base + stride * i) o).bind fun e =>
        match decide (e.nw.length ≤ stride) with
        | true => settle (guards ops i) e.dst fun t => .ret { st with regs := setDst st.regs o.dst t, heap := (st.heap.updAll e.wr).news (base + stride * i) e.nw }
        | false => .fail
    match o.guard with
    | none => go
    | some (j, want) => match (ops[j]?).bind (·.dst) with
      | some d => match st.regs.getD d .undef with
        | .kb b => if b = want then go else .ret { st with regs := setDst st.regs o.dst .nov }
        | .nov => .ret { st with regs := setDst st.regs o.dst .nov }
        | _ => .fail
      | none => .fail
def stepsP (C : Ctx) (ops : List Oper) (base : Nat) : List Nat → St → DT St
  | [], st => .ret st
  | i :: r, st => (stepP C ops base i st).bind fun s => stepsP C ops base r s

def disj (a b : List Nat) : Bool := a.all fun x => !b.contains x
def apartFP (a b : FP) : Bool := disj a.wrote b.seen && disj b.wrote a.seen && disj a.wrote b.wrote
/-- what comes before each operation, as bits -/
def maskOf (acc : List Nat) : List Edge → Nat
  | [] => 0
  | e :: r => if Region.binds .any e then 2 ^ e.on ||| acc.getD e.on 0 ||| maskOf acc r else maskOf acc r
def befs : List Oper → List Nat → List Nat
  | [], acc => acc
  | o :: r, acc => befs r (acc ++ [maskOf acc o.after.toList])
/-- two operations that come in no fixed order come in whichever order to the same -/
def freeFP (bs : List Nat) : List (Nat × FP) → Bool
  | [] => true
  | (i, a) :: r => (r.all fun p => (bs.getD p.1 0).testBit i || apartFP a p.2) && freeFP bs r
def backOk : Nat → List Oper → Bool
  | _, [] => true
  | i, o :: r => (o.after.toList.all fun e => !Region.binds .any e || decide (e.on < i)) && backOk (i + 1) r
def apartAll (opa : Array Oper) (bs : List Nat) (i : Nat) (x : Oper) : Nat → List Oper → Bool
  | _, [] => true
  | j, y :: r => ((bs.getD j 0).testBit i || x.apart opa y) && apartAll opa bs i x (j + 1) r
def pairsOk (opa : Array Oper) (bs : List Nat) : Nat → List Oper → Bool
  | _, [] => true
  | i, x :: r => apartAll opa bs i x (i + 1) r && pairsOk opa bs (i + 1) r
def orderOk (ops : List Oper) (bs : List Nat) : Bool := backOk 0 ops && pairsOk ops.toArray bs 0 ops

/-- an operation that saw or wrote something -/
def busyFP (p : Nat × FP) : Bool :=
  match p.2.seen with
  | _ :: _ => true
  | [] => match p.2.wrote with
    | _ :: _ => true
    | [] => false
def freeB (bs : List Nat) (l : List (Nat × FP)) : Bool := freeFP bs (l.filter busyFP)
def unruly (ops : List Oper) (draw : Bool) : Bool := draw && !orderOk ops (befs ops [])
def regionT (C : Ctx) (ops : List Oper) (draw : Bool) (st : St) : DT St :=
  match draw with
  | false => (stepsP C ops st.next (List.range ops.length) st).bind fun s => .ret { s with next := st.next + stride * ops.length }
  | true => match unruly ops draw with
    | true => .fail
    | false => (stepsT C ops st.next (List.range ops.length) st).bind fun p =>
      match freeB (befs ops []) p.2 with
      | true => .ret { p.1 with next := st.next + stride * ops.length }
      | false => .fail

/-! ### 5. Code -/
inductive Out where
  | normal | exit (id : Nat) | ret
  deriving DecidableEq

def atRegs (r : List T) (ks : List (Nat × AK)) : List T := ks.map fun k => r.getD k.1 .undef
def putRegs : List (Nat × AK) → List T → List T → List T
  | k :: ks, t :: ts, r => putRegs ks ts (r.set k.1 t)
  | _, _, r => r
/-- a state that is made anew out of what is kept -/
def stOf (n : Nat) (ks : List (Nat × AK)) (x : AXs (ks.map (·.2))) : St :=
  let p := putAs 0 (ks.map (·.2)) x
  { regs := putRegs ks p.1 (List.replicate n .undef), heap := Heap.news (fun _ => .none) 0 p.2, next := p.2.length }
def takeSt (ks : List (Nat × AK)) (st : St) : DT (AXs (ks.map (·.2))) :=
  match takeAs st.heap (ks.map (·.2)) (atRegs st.regs ks) with
  | some (x, own, seen) => if nodupB own && seen.all (fun i => !own.contains i) then .ret x else .fail
  | none => .fail

def loopT (C : Ctx) (id : Nat) (st : St) : DT (Out × St) :=
  match C.loop id with
  | some l => (takeSt l.keep st).bind fun x => (l.F x).bind fun
    | .inl y => .ret (.normal, stOf st.regs.length l.keep y)
    | .inr y => .ret (.ret, stOf st.regs.length l.ret y)
  | none => .fail

def inBlock (id : Nat) (p : Out × St) : DT (Out × St) :=
  match p.1 with
  | .exit j => .ret (if j = id then .normal else .exit j, p.2)
  | o => .ret (o, p.2)

def run (C : Ctx) : Code → St → DT (Out × St)
  | .skip, st => .ret (.normal, st)
  | .region _ ops draw, st => (regionT C ops.toList draw st).bind fun s => .ret (.normal, s)
  | .seq a b, st => (run C a st).bind fun p => match p.1 with
    | .normal => run C b p.2
    | o => .ret (o, p.2)
  | .cond c t e, st => onBool (opv st.regs c) fun b => match b with
    | true => run C t st
    | false => run C e st
  | .block id (.loop _), st => loopT C id st
  | .block id c, st => (run C c st).bind (inBlock id)
  | .exit id, st => .ret (.exit id, st)
  | .ret, st => .ret (.ret, st)
  | _, _ => .fail

/-- one round of a loop: on with what is kept, out behind the loop, or a return -/
inductive Rd (α β : Type) where
  | on (a : α) | out (a : α) | ret (b : β)
def roundT (C : Ctx) (n id : Nat) (body : Code) (keep ret : List (Nat × AK)) (x : AXs (keep.map (·.2))) : DT (Rd (AXs (keep.map (·.2))) (AXs (ret.map (·.2)))) :=
  (run C body (stOf n keep x)).bind fun p => match p.1 with
    | .normal => (takeSt keep p.2).bind fun y => .ret (.on y)
    | .exit j => if j = id then (takeSt keep p.2).bind fun y => .ret (.out y) else .fail
    | .ret => (takeSt ret p.2).bind fun y => .ret (.ret y)

end Go.Am

/- The symbolic machine: what its states say of the model's. -/
set_option linter.unusedVariables false
set_option linter.unusedSimpArgs false
namespace Go.Am
open Go Go.RowKit

/-! ### 1. Decision trees -/
namespace DT
variable {α β : Type}
theorem wp_bind (m : DT α) (f : α → DT β) (Q : β → Prop) : (m.bind f).wp Q ↔ m.wp fun a => (f a).wp Q := by
  induction m with
  | ret a => exact Iff.rfl
  | fail => exact Iff.rfl
  | ite b t e iht ihe => simp only [bind, wp, iht, ihe]
theorem wp_mono {m : DT α} {Q R : α → Prop} (h : ∀ a, Q a → R a) (hm : m.wp Q) : m.wp R := by
  induction m with
  | ret a => exact h _ hm
  | fail => exact hm
  | ite b t e iht ihe => exact ⟨fun hb => iht (hm.1 hb), fun hb => ihe (hm.2 hb)⟩
theorem wp_ite {b : Bool} {t e : DT α} {Q : α → Prop} (h : (DT.ite b t e).wp Q) : (b = true ∧ t.wp Q) ∨ (b = false ∧ e.wp Q) := by
  cases b
  · exact .inr ⟨rfl, h.2 rfl⟩
  · exact .inl ⟨rfl, h.1 rfl⟩
theorem wp_guard {b : Bool} {t : DT α} {Q : α → Prop} (h : (DT.ite b t .fail).wp Q) : b = true ∧ t.wp Q := by
  cases b
  · exact (h.2 rfl).elim
  · exact ⟨rfl, h.1 rfl⟩
/-- two trees in either order -/
theorem wp_comm (m : DT α) (n : DT β) (Q : α → β → Prop) : (m.wp fun a => n.wp fun b => Q a b) → n.wp fun b => m.wp fun a => Q a b := by
  induction m with
  | ret a => exact id
  | fail => exact fun h => h.elim
  | ite b t e iht ihe =>
    intro h
    cases b
    · exact wp_mono (fun _ hx => ⟨fun hb => by simp at hb, fun _ => hx⟩) (ihe (h.2 rfl))
    · exact wp_mono (fun _ hx => ⟨fun _ => hx, fun hb => by simp at hb⟩) (iht (h.1 rfl))
end DT

theorem wp_test {α : Type} {lit b : Bool} {k : DT α} {Q : α → Prop} (h : (test lit b k).wp Q) : b = true ∧ k.wp Q := by
  unfold test at h
  cases lit
  · exact DT.wp_guard (by simpa using h)
  · cases b
    · exact h.elim
    · exact ⟨rfl, h⟩

/-! ### 2. What is read and never written -/
def RoRow {α : Type} (R : α → List Value → Prop) (w : World) (O : Nat → Prop) (sz : Nat) (A : Option Addr) (xs : List α) : Prop :=
  xs ≠ [] → ∃ b off, A = some ⟨b, off, none⟩ ∧ b < w.heap.size ∧ ¬ O b ∧
    ∀ (i : Nat) (x : α), xs[i]? = some x → ∃ us, R x us ∧ us.length = sz ∧ ∀ (j : Nat) (u : Value), us[j]? = some u → w.cell? ⟨b, off + (i * sz + j), none⟩ = some u

def RoX (w : World) (O : Nat → Prop) : (t : Ty) → t.X → List Value → Prop
  | .int k, n, vs => vs = [.int k n]
  | .bool, b, vs => vs = [.bool b]
  | .str, s, vs => vs = [.string s]
  | .sl e, xs, vs => ∃ A c, vs = [.slice A (List.length (α := e.X) xs) c] ∧ List.length (α := e.X) xs ≤ c ∧ RoRow (RoX w O e) w O e.size A xs
  | .pair a b, x, vs => ∃ v1 v2, vs = v1 ++ v2 ∧ RoX w O a x.1 v1 ∧ RoX w O b x.2 v2
  | .unit, _, vs => vs = []

theorem RoX.length {w : World} {O : Nat → Prop} : ∀ (t : Ty) (x : t.X) (vs : List Value), RoX w O t x vs → vs.length = t.size
  | .int k, n, vs, h => by simp only [RoX] at h; subst h; rfl
  | .bool, n, vs, h => by simp only [RoX] at h; subst h; rfl
  | .str, n, vs, h => by simp only [RoX] at h; subst h; rfl
  | .sl e, xs, vs, h => by obtain ⟨A, c, rfl, _⟩ := h; rfl
  | .pair a b, x, vs, h => by
    obtain ⟨v1, v2, rfl, h1, h2⟩ := h
    simp [Ty.size, RoX.length a _ _ h1, RoX.length b _ _ h2]
  | .unit, _, vs, h => by simp only [RoX] at h; subst h; rfl

/-- what was not to be written in w stands so in w', and is not to be written there -/
structure Ext (w : World) (O : Nat → Prop) (w' : World) (O' : Nat → Prop) : Prop where
  size : w.heap.size ≤ w'.heap.size
  keep : ∀ b, b < w.heap.size → ¬ O b → ¬ O' b ∧ w'.heap[b]? = w.heap[b]?
theorem Ext.refl (w : World) (O : Nat → Prop) : Ext w O w O := ⟨Nat.le_refl _, fun _ _ h => ⟨h, rfl⟩⟩
theorem Ext.trans {w1 w2 w3 : World} {O1 O2 O3 : Nat → Prop} (h : Ext w1 O1 w2 O2) (k : Ext w2 O2 w3 O3) : Ext w1 O1 w3 O3 :=
  ⟨Nat.le_trans h.size k.size, fun b hb ho => by
    obtain ⟨h1, h2⟩ := h.keep b hb ho
    obtain ⟨k1, k2⟩ := k.keep b (Nat.lt_of_lt_of_le hb h.size) h1
    exact ⟨k1, k2.trans h2⟩⟩
theorem Ext.less {w : World} {O O' : Nat → Prop} (h : ∀ b, O' b → O b) : Ext w O w O' := ⟨Nat.le_refl _, fun b _ ho => ⟨fun h' => ho (h b h'), rfl⟩⟩
theorem Ext.cell {w w' : World} {O O' : Nat → Prop} (h : Ext w O w' O') {b o : Nat} (hb : b < w.heap.size) (ho : ¬ O b) : w'.cell? ⟨b, o, none⟩ = w.cell? ⟨b, o, none⟩ :=
  World.cell?_of_block (w := w) (h.keep b hb ho).2

theorem RoRow.mono {α : Type} {R R' : α → List Value → Prop} {w w' : World} {O O' : Nat → Prop} {sz : Nat} {A : Option Addr} {xs : List α} (hR : ∀ x us, R x us → R' x us)
    (hx : Ext w O w' O') (h : RoRow R w O sz A xs) : RoRow R' w' O' sz A xs := by
  intro hne
  obtain ⟨b, off, hA, hb, ho, hc⟩ := h hne
  refine ⟨b, off, hA, Nat.lt_of_lt_of_le hb hx.size, (hx.keep b hb ho).1, fun i x hi => ?_⟩
  obtain ⟨us, h1, h2, h3⟩ := hc i x hi
  exact ⟨us, hR _ _ h1, h2, fun j u hj => (hx.cell hb ho).trans (h3 j u hj)⟩

theorem RoX.mono {w w' : World} {O O' : Nat → Prop} (hx : Ext w O w' O') : ∀ (t : Ty) (x : t.X) (vs : List Value), RoX w O t x vs → RoX w' O' t x vs
  | .int _, _, _, h => h
  | .bool, _, _, h => h
  | .str, _, _, h => h
  | .sl e, xs, vs, h => by
    obtain ⟨A, c, h1, h2, h3⟩ := h
    exact ⟨A, c, h1, h2, RoRow.mono (fun x us hh => RoX.mono hx e x us hh) hx h3⟩
  | .pair a b, x, vs, h => by
    obtain ⟨v1, v2, h1, h2, h3⟩ := h
    exact ⟨v1, v2, h1, RoX.mono hx a _ _ h2, RoX.mono hx b _ _ h3⟩
  | .unit, _, _, h => h

/-! ### 3. Values -/
/-- of each block of the machine's: the value that stands for it (a pointer, a slice), the model's block -/
abbrev Kap := Nat → Option (Value × Option Nat)
def Kap.le (κ κ' : Kap) : Prop := ∀ i p, κ i = some p → κ' i = some p
theorem Kap.le_refl (κ : Kap) : κ.le κ := fun _ _ h => h
theorem Kap.le_trans {a b c : Kap} (h : a.le b) (k : b.le c) : a.le c := fun i p hp => k i p (h i p hp)

mutual
def RepT (w : World) (O : Nat → Prop) (κ : Kap) : T → Value → Prop
  | .undef, _ => True
  | .nov, v => v = undef
  | .int k n, v => v = .int k n
  | .bool b, v => v = .bool b
  | .kb b, v => v = .bool b
  | .str s, v => v = .string s
  | .agg cs, v => ∃ vs, v = .agg (List.toArray vs) ∧ RepTs w O κ cs vs
  | .ro e xs, v => RoX w O (.sl e) xs [v]
  | .z, v => ∃ A, v = .slice A 0 0
  | .ow id, v => ∃ ob, κ id = some (v, ob)
  | .ptr id off, v => ∃ hv b, κ id = some (hv, some b) ∧ v = .pointer (some ⟨b, off, none⟩)
  | .eptr id sz i off, v => ∃ A n c b, κ id = some (.slice A n c, some b) ∧ i < n ∧ v = .pointer (some ⟨b, i * sz + off, none⟩)
  | .aptr id i len, v => ∃ hv b, κ id = some (hv, some b) ∧ i < len ∧ v = .pointer (some ⟨b, i, none⟩)
  | .pro cs off, v => ∃ b o vs, v = .pointer (some ⟨b, o + off, none⟩) ∧ b < w.heap.size ∧ ¬ O b ∧ RepTs w O κ cs vs ∧ ∀ (j : Nat) (u : Value), vs[j]? = some u → w.cell? ⟨b, o + j, none⟩ = some u
  | .fn f cs, v => ∃ vs, v = .func (.func f) #[] (List.toArray vs) ∧ RepTs w O κ cs vs
  | .tup ts, v => ∃ vs, v = .tuple (List.toArray vs) ∧ RepTs w O κ ts vs
def RepTs (w : World) (O : Nat → Prop) (κ : Kap) : List T → List Value → Prop
  | [], vs => vs = []
  | t :: ts, vs => ∃ v us, vs = v :: us ∧ RepT w O κ t v ∧ RepTs w O κ ts us
end

mutual
theorem RepT.mono {w w' : World} {O O' : Nat → Prop} {κ κ' : Kap} (hx : Ext w O w' O') (hk : κ.le κ') : ∀ (t : T) (v : Value), RepT w O κ t v → RepT w' O' κ' t v
  | .undef, _, _ => by simp only [RepT]
  | .nov, v, h => by simpa only [RepT] using h
  | .int k n, v, h => by simpa only [RepT] using h
  | .bool b, v, h => by simpa only [RepT] using h
  | .kb b, v, h => by simpa only [RepT] using h
  | .str s, v, h => by simpa only [RepT] using h
  | .agg cs, v, h => by
    simp only [RepT] at h ⊢
    obtain ⟨vs, h1, h2⟩ := h
    exact ⟨vs, h1, RepTs.mono hx hk cs vs h2⟩
  | .ro e xs, v, h => by simp only [RepT] at h ⊢; exact RoX.mono hx _ _ _ h
  | .z, v, h => by simpa only [RepT] using h
  | .ow id, v, h => by
    simp only [RepT] at h ⊢
    obtain ⟨ob, h1⟩ := h
    exact ⟨ob, hk _ _ h1⟩
  | .ptr id off, v, h => by
    simp only [RepT] at h ⊢
    obtain ⟨hv, b, h1, h2⟩ := h
    exact ⟨hv, b, hk _ _ h1, h2⟩
  | .eptr id sz i off, v, h => by
    simp only [RepT] at h ⊢
    obtain ⟨A, n, c, b, h1, h2⟩ := h
    exact ⟨A, n, c, b, hk _ _ h1, h2⟩
  | .aptr id i len, v, h => by
    simp only [RepT] at h ⊢
    obtain ⟨hv, b, h1, h2⟩ := h
    exact ⟨hv, b, hk _ _ h1, h2⟩
  | .pro cs off, v, h => by
    simp only [RepT] at h ⊢
    obtain ⟨b, o, vs, h1, h2, h3, h4, h5⟩ := h
    exact ⟨b, o, vs, h1, Nat.lt_of_lt_of_le h2 hx.size, (hx.keep b h2 h3).1, RepTs.mono hx hk cs vs h4, fun j u hj => (hx.cell h2 h3).trans (h5 j u hj)⟩
  | .fn f cs, v, h => by
    simp only [RepT] at h ⊢
    obtain ⟨vs, h1, h2⟩ := h
    exact ⟨vs, h1, RepTs.mono hx hk cs vs h2⟩
  | .tup ts, v, h => by
    simp only [RepT] at h ⊢
    obtain ⟨vs, h1, h2⟩ := h
    exact ⟨vs, h1, RepTs.mono hx hk ts vs h2⟩
theorem RepTs.mono {w w' : World} {O O' : Nat → Prop} {κ κ' : Kap} (hx : Ext w O w' O') (hk : κ.le κ') : ∀ (ts : List T) (vs : List Value), RepTs w O κ ts vs → RepTs w' O' κ' ts vs
  | [], vs, h => by simpa only [RepTs] using h
  | t :: ts, vs, h => by
    simp only [RepTs] at h ⊢
    obtain ⟨v, us, h1, h2, h3⟩ := h
    exact ⟨v, us, h1, RepT.mono hx hk t v h2, RepTs.mono hx hk ts us h3⟩
end

section
variable {w : World} {O : Nat → Prop} {κ : Kap}
theorem RepTs.length : ∀ {ts : List T} {vs : List Value}, RepTs w O κ ts vs → vs.length = ts.length
  | [], vs, h => by simp only [RepTs] at h; subst h; rfl
  | t :: ts, vs, h => by
    simp only [RepTs] at h
    obtain ⟨v, us, rfl, _, h3⟩ := h
    simp [RepTs.length h3]
theorem RepTs.nil : RepTs w O κ [] [] := by simp [RepTs]
theorem RepTs.cons {t : T} {ts : List T} {v : Value} {vs : List Value} (h : RepT w O κ t v) (hs : RepTs w O κ ts vs) : RepTs w O κ (t :: ts) (v :: vs) := by
  simp only [RepTs]; exact ⟨v, vs, rfl, h, hs⟩
theorem RepTs.cons_iff {t : T} {ts : List T} {v : Value} {vs : List Value} : RepTs w O κ (t :: ts) (v :: vs) ↔ RepT w O κ t v ∧ RepTs w O κ ts vs := by
  constructor
  · intro h
    simp only [RepTs] at h
    obtain ⟨v', us, he, h1, h2⟩ := h
    injection he with he1 he2
    subst he1; subst he2
    exact ⟨h1, h2⟩
  · exact fun h => RepTs.cons h.1 h.2
theorem RepTs.append : ∀ {a b : List T} {us vs : List Value}, RepTs w O κ a us → RepTs w O κ b vs → RepTs w O κ (a ++ b) (us ++ vs)
  | [], b, us, vs, h, hb => by simp only [RepTs] at h; subst h; simpa using hb
  | t :: a, b, us, vs, h, hb => by
    simp only [RepTs] at h
    obtain ⟨v, us', rfl, h1, h2⟩ := h
    exact RepTs.cons h1 (RepTs.append h2 hb)
theorem RepTs.drop : ∀ (n : Nat) {a : List T} {us : List Value}, RepTs w O κ a us → RepTs w O κ (a.drop n) (us.drop n)
  | 0, a, us, h => by simpa using h
  | n + 1, [], us, h => by simp only [RepTs] at h; subst h; simp [RepTs]
  | n + 1, t :: a, us, h => by
    simp only [RepTs] at h
    obtain ⟨v, us', rfl, h1, h2⟩ := h
    simpa using RepTs.drop n h2
theorem RepTs.take : ∀ (n : Nat) {a : List T} {us : List Value}, RepTs w O κ a us → RepTs w O κ (a.take n) (us.take n)
  | 0, a, us, h => by simp [RepTs]
  | n + 1, [], us, h => by simp only [RepTs] at h; subst h; simp [RepTs]
  | n + 1, t :: a, us, h => by
    simp only [RepTs] at h
    obtain ⟨v, us', rfl, h1, h2⟩ := h
    simpa using RepTs.cons h1 (RepTs.take n h2)
theorem RepTs.get : ∀ {ts : List T} {vs : List Value}, RepTs w O κ ts vs → ∀ (i : Nat) (t : T), ts[i]? = some t → ∃ v, vs[i]? = some v ∧ RepT w O κ t v
  | [], vs, h, i, t, hi => by simp at hi
  | t :: ts, vs, h, i, t', hi => by
    simp only [RepTs] at h
    obtain ⟨v, us, rfl, h1, h2⟩ := h
    cases i with
    | zero => simp at hi; subst hi; exact ⟨v, rfl, h1⟩
    | succ i => simp only [List.getElem?_cons_succ] at hi ⊢; exact RepTs.get h2 i t' hi
theorem RepTs.at_ : ∀ {ts : List T} {vs : List Value}, RepTs w O κ ts vs → ∀ (i : Nat) (v : Value), vs[i]? = some v → ∃ t, ts[i]? = some t ∧ RepT w O κ t v
  | [], vs, h, i, t, hi => by simp only [RepTs] at h; subst h; simp at hi
  | t :: ts, vs, h, i, v', hi => by
    simp only [RepTs] at h
    obtain ⟨v, us, rfl, h1, h2⟩ := h
    cases i with
    | zero => simp at hi; subst hi; exact ⟨t, rfl, h1⟩
    | succ i => simp only [List.getElem?_cons_succ] at hi ⊢; exact RepTs.at_ h2 i v' hi

/-- a typed value's cells -/
theorem RoX.rep : ∀ (t : Ty) (x : t.X) (vs : List Value), RoX w O t x vs → RepTs w O κ (enc t x) vs
  | .int k, n, vs, h => by simp only [RoX] at h; subst h; exact RepTs.cons (by simp [RepT]) RepTs.nil
  | .bool, n, vs, h => by simp only [RoX] at h; subst h; exact RepTs.cons (by simp [RepT]) RepTs.nil
  | .str, n, vs, h => by simp only [RoX] at h; subst h; exact RepTs.cons (by simp [RepT]) RepTs.nil
  | .sl e, xs, vs, h => by
    have h0 := h
    obtain ⟨A, c, rfl, h2, h3⟩ := h
    refine RepTs.cons ?_ RepTs.nil
    simp only [RepT]
    exact h0
  | .pair a b, x, vs, h => by
    obtain ⟨v1, v2, rfl, h1, h2⟩ := h
    exact RepTs.append (RoX.rep a _ _ h1) (RoX.rep b _ _ h2)
  | .unit, _, vs, h => by simp only [RoX] at h; subst h; exact RepTs.nil
end

theorem enc_length : ∀ (t : Ty) (x : t.X), (enc t x).length = t.size
  | .int _, _ => rfl
  | .bool, _ => rfl
  | .str, _ => rfl
  | .sl _, _ => rfl
  | .pair a b, x => by simp [enc, Ty.size, enc_length a, enc_length b]
  | .unit, _ => rfl

theorem castX_some {a b : Ty} {x : List a.X} {y : List b.X} (h : castX a b x = some y) : ∃ e : a = b, e ▸ x = y := by
  unfold castX at h
  split at h
  · rename_i e; exact ⟨e, by simpa using h⟩
  · cases h

/-- what a typed reading of cells tells -/
theorem dec_ro {w : World} {O : Nat → Prop} {κ : Kap} : ∀ (t : Ty) (ts : List T) (vs : List Value) (x : t.X) (r : List T), RepTs w O κ ts vs → dec t ts = some (x, r) →
    ∃ us ws, vs = us ++ ws ∧ us.length = t.size ∧ RoX w O t x us ∧ RepTs w O κ r ws ∧ r = ts.drop t.size := by
  intro t
  induction t with
  | int k =>
    intro ts vs x r h hd
    cases ts with
    | nil => simp [dec] at hd
    | cons t ts =>
      simp only [RepTs] at h
      obtain ⟨v, us, rfl, h1, h2⟩ := h
      cases t <;> simp [dec] at hd
      obtain ⟨rfl, rfl, rfl⟩ := hd
      simp only [RepT] at h1
      exact ⟨[v], us, rfl, rfl, by simp [RoX, h1], h2, rfl⟩
  | bool =>
    intro ts vs x r h hd
    cases ts with
    | nil => simp [dec] at hd
    | cons t ts =>
      simp only [RepTs] at h
      obtain ⟨v, us, rfl, h1, h2⟩ := h
      cases t <;> simp [dec] at hd
      all_goals
        obtain ⟨rfl, rfl⟩ := hd
        simp only [RepT] at h1
        exact ⟨[v], us, rfl, rfl, by simp [RoX, h1], h2, rfl⟩
  | str =>
    intro ts vs x r h hd
    cases ts with
    | nil => simp [dec] at hd
    | cons t ts =>
      simp only [RepTs] at h
      obtain ⟨v, us, rfl, h1, h2⟩ := h
      cases t <;> simp [dec] at hd
      obtain ⟨rfl, rfl⟩ := hd
      simp only [RepT] at h1
      exact ⟨[v], us, rfl, rfl, by simp [RoX, h1], h2, rfl⟩
  | sl e ih =>
    intro ts vs x r h hd
    cases ts with
    | nil => simp [dec] at hd
    | cons t ts =>
      simp only [RepTs] at h
      obtain ⟨v, us, rfl, h1, h2⟩ := h
      cases t with
      | ro e' xs =>
        simp only [dec] at hd
        cases hy : castX e' e xs with
        | none => rw [hy] at hd; cases hd
        | some y =>
        rw [hy] at hd
        obtain ⟨rfl, rfl⟩ := castX_some hy
        have hd := Option.some.inj hd
        obtain ⟨rfl, rfl⟩ := Prod.mk.inj hd
        simp only [RepT] at h1
        exact ⟨[v], us, rfl, rfl, h1, h2, rfl⟩
      | z =>
        simp only [dec, Option.some.injEq, Prod.mk.injEq] at hd
        obtain ⟨rfl, rfl⟩ := hd
        simp only [RepT] at h1
        obtain ⟨A, rfl⟩ := h1
        exact ⟨[_], us, rfl, rfl, ⟨A, 0, rfl, Nat.le_refl _, fun hn => absurd rfl hn⟩, h2, rfl⟩
      | _ => simp [dec] at hd
  | pair a b iha ihb =>
    intro ts vs x r h hd
    simp only [dec] at hd
    cases ha : dec a ts with
    | none => simp [ha] at hd
    | some p =>
      obtain ⟨y, r1⟩ := p
      simp only [ha] at hd
      cases hb : dec b r1 with
      | none => simp [hb] at hd
      | some q =>
        obtain ⟨z, r2⟩ := q
        simp only [hb, Option.some.injEq, Prod.mk.injEq] at hd
        obtain ⟨rfl, rfl⟩ := hd
        obtain ⟨u1, w1, rfl, l1, x1, s1, rfl⟩ := iha ts vs y r1 h ha
        obtain ⟨u2, w2, rfl, l2, x2, s2, rfl⟩ := ihb _ w1 z _ s1 hb
        exact ⟨u1 ++ u2, w2, by simp, by simp [Ty.size, l1, l2], ⟨u1, u2, rfl, x1, x2⟩, s2, by simp [Ty.size]⟩
  | unit =>
    intro ts vs x r h hd
    simp only [dec, Option.some.injEq, Prod.mk.injEq] at hd
    obtain ⟨rfl, rfl⟩ := hd
    exact ⟨[], vs, rfl, rfl, by simp [RoX], h, rfl⟩

end Go.Am
