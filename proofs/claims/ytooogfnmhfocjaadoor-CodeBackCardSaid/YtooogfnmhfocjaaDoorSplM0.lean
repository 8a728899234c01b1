/- Texts of the abstract machine and of the walks, part 0. -/
import Derived.Calls
import Derived.Below
import Derived.MapKept
import Derived.WalkKit
import Derived.Lib.FrozenHead
import Derived.Lib.ConvBytes
import Derived.Laws.BytesString
import Derived.Lib.UnsafeStr
import Derived.Lib.Builder
import Derived.Orders

/- The abstract machine: Go code run over a memory without capacities, block numbers or drawn orders. Definitions only. -/
namespace Go.Proofs.YtooogfnmhfocjaaDoor.Spl
open Go
set_option linter.unusedVariables false

/-- Values of the abstract machine: addresses are object numbers, slices bear no capacity. -/
inductive AV where
  | undef
  | bool (b : Bool)
  | int (k : IntKind) (n : Int)
  | str (s : ByteArray)
  | nilptr
  | ptr (i o : Nat)
  | anyptr
  | nilslice
  | slice (i o len es : Nat)
  | dang
  | func (fn : Fn) (first captured : List AV)
  | nilfunc
  | iface (t : TypeId) (v : AV)
  | nilface
  | agg (cs : List AV)
  | tup (cs : List AV)
  | mp (i : Nat)
  deriving Inhabited

mutual
/-- Are values one? (told of few) -/
def AV.eqb : AV → AV → Bool
  | .undef, .undef => true
  | .bool a, .bool b => a == b
  | .int k a, .int k' b => decide (k = k') && decide (a = b)
  | .str a, .str b => decide (a = b)
  | .nilptr, .nilptr => true
  | .ptr i o, .ptr j p => Nat.beq i j && Nat.beq o p
  | .nilslice, .nilslice => true
  | .slice i o l e, .slice i' o' l' e' => Nat.beq i i' && Nat.beq o o' && Nat.beq l l' && Nat.beq e e'
  | .dang, .dang => true
  | .nilfunc, .nilfunc => true
  | .nilface, .nilface => true
  | .agg a, .agg b => AV.eqbs a b
  | .tup a, .tup b => AV.eqbs a b
  | .mp i, .mp j => Nat.beq i j
  | _, _ => false
def AV.eqbs : List AV → List AV → Bool
  | [], [] => true
  | a :: as, b :: bs => AV.eqb a b && AV.eqbs as bs
  | _, _ => false
end

inductive AObj where
  | dead
  | cells (ty : TypeId) (fz : Nat) (cs : List AV)
  | other (o : Obj)
  deriving Inhabited

structure Mem where
  base : Nat
  next : Nat
  get : Nat → AObj

def Mem.set (m : Mem) (i : Nat) (o : AObj) : Mem := { m with get := fun j => if j = i then o else m.get j }
def Mem.alloc (m : Mem) (o : AObj) : Mem := { m with next := m.next + 1, get := fun j => if j = m.next then o else m.get j }

abbrev M (α : Type) := Mem → Option (α × Mem)
def ret {α : Type} (a : α) : M α := fun m => some (a, m)
def fail {α : Type} : M α := fun _ => none
def bnd {α β : Type} (x : M α) (k : α → M β) : M β := fun m =>
  match x m with
  | some (a, m') => k a m'
  | none => none
def lp {α β : Type} (x : Option α) (k : α → M β) : M β :=
  match x with
  | some a => k a
  | none => fail
def snap {α : Type} (k : Mem → M α) : M α := fun m => k m m

/-- A branch at a bool. -/
def mc {ρ : Type} (v : AV) (a b : M ρ) : M ρ :=
  match v with
  | .bool true => a
  | .bool false => b
  | _ => fail

abbrev TM := List AV
def TM.put (t : TM) (d : Option Tmp) (v : AV) : TM :=
  match d with
  | some i => t.set i v
  | none => t

def Value.sc : Value → AV
  | .bool b => .bool b
  | .int k n => .int k n
  | .string s => .str s
  | .pointer none => .nilptr
  | .slice none 0 0 => .nilslice
  | .nilFunc => .nilfunc
  | .nilIface => .nilface
  | _ => .undef
def Value.av : Value → AV
  | .agg cs => .agg (cs.toList.map Value.sc)
  | v => Value.sc v

def TM.ev (t : TM) : Operand → AV
  | .tmp i => t.getD i .undef
  | .const v => Value.av v
  | .global _ => .undef
  | .func f => .func (.func f) [] []

/-- Is it the value of one cell? -/
def AV.one : AV → Bool
  | .undef | .agg _ | .tup _ => false
  | _ => true
def AV.cells? : AV → Option (List AV)
  | .agg cs => some cs
  | .undef | .tup _ => none
  | v => some [v]

/-- The cells of a type's zero value. -/
def zeroCells? (P : Program) (t : TypeId) : Option (List AV) :=
  match (P.info? t).bind (·.zero) with
  | some v => (Value.av v).cells?
  | none => none
/-- none: one cell; some n: a struct or an array of n cells. -/
def shape? (P : Program) (t : TypeId) : Option (Option Nat) :=
  match P.underlying t, P.info? t with
  | some (.struct _), some i | some (.array _ _), some i => some (some i.size)
  | some _, some i => if i.size = 1 then some none else none
  | _, _ => none
def size? (P : Program) (t : TypeId) : Option Nat := (P.info? t).map (·.size)

/-! pure operations -/

def b2 (k : IntKind) (op : BinOp) (a b : Int) : Option AV :=
  match op with
  | .add => some (.int k (k.wrap (a + b)))
  | .sub => some (.int k (k.wrap (a - b)))
  | .mul => some (.int k (k.wrap (a * b)))
  | .quo => if b = 0 then none else some (.int k (k.wrap (a.tdiv b)))
  | .rem => if b = 0 then none else some (.int k (a.tmod b))
  | .and => some (.int k (k.wrap (BitVec.ofInt k.bits a &&& BitVec.ofInt k.bits b).toNat))
  | .or => some (.int k (k.wrap (BitVec.ofInt k.bits a ||| BitVec.ofInt k.bits b).toNat))
  | .xor => some (.int k (k.wrap (BitVec.ofInt k.bits a ^^^ BitVec.ofInt k.bits b).toNat))
  | .andNot => some (.int k (k.wrap (BitVec.ofInt k.bits a &&& ~~~(BitVec.ofInt k.bits b)).toNat))
  | .eql => some (.bool (a == b))
  | .neq => some (.bool (a != b))
  | .lss => some (.bool (decide (a < b)))
  | .leq => some (.bool (decide (a ≤ b)))
  | .gtr => some (.bool (decide (a > b)))
  | .geq => some (.bool (decide (a ≥ b)))
  | _ => none

def sh2 (k : IntKind) (op : BinOp) (a b : Int) : Option AV :=
  if b < 0 then none else
  match op with
  | .shl => some (.int k (k.wrap (a * 2 ^ (min b.toNat k.bits))))
  | .shr => some (.int k (a.fdiv (2 ^ (min b.toNat k.bits))))
  | _ => none

def strEq (a b : ByteArray) : Bool := a.toList == b.toList

def s2 (op : BinOp) (a b : ByteArray) : Option AV :=
  match op with
  | .add => if ((a.size + b.size : Nat) : Int) > IntKind.i64.max then none else some (.str (a ++ b))
  | .eql => some (.bool (strEq a b))
  | .neq => some (.bool (!strEq a b))
  | .lss => some (.bool (Op.bytesLess a.toList b.toList))
  | .leq => some (.bool (Op.bytesLess a.toList b.toList || strEq a b))
  | .gtr => some (.bool !(Op.bytesLess a.toList b.toList || strEq a b))
  | .geq => some (.bool !(Op.bytesLess a.toList b.toList))
  | _ => none

/-- Equality of two values of one cell; k says of what kind their type is. -/
def eqF (k : Nat) (x y : AV) : Option Bool :=
  match k, x, y with
  | 1, .bool a, .bool b => some (a == b)
  | 6, .int k a, .int k' b => if k = k' then some (a == b) else none
  | 7, .str a, .str b => some (strEq a b)
  | 3, .nilptr, .nilptr => some true
  | 3, .nilptr, .ptr _ _ => some false
  | 3, .ptr _ _, .nilptr => some false
  | 3, .ptr i o, .ptr j p => if i = j then some (o == p) else none
  | 4, .nilslice, .nilslice => some true
  | 4, .nilslice, .slice _ _ _ _ => some false
  | 4, .slice _ _ _ _, .nilslice => some false
  | 4, .dang, .nilslice => some false
  | 4, .nilslice, .dang => some false
  | 5, .nilfunc, .nilfunc => some true
  | 5, .nilfunc, .func _ _ _ => some false
  | 5, .func _ _ _, .nilfunc => some false
  | _, _, _ => none

/-- Equality of structs whose fields are one cell each. -/
def eqCells : List Nat → List AV → List AV → Option Bool
  | [], [], [] => some true
  | k :: ks, a :: as, b :: bs =>
    match eqF k a b with
    | some true => eqCells ks as bs
    | some false => some false
    | none => none
  | _, _, _ => none

def kindOf (P : Program) (t : TypeId) : Nat :=
  match P.underlying t with
  | some .bool => 1
  | some (.int _) => 6
  | some .string => 7
  | some (.pointer e) => if (size? P e).getD 0 = 0 then 0 else 3
  | some (.slice _) => 4
  | some (.func _ _ _) => 5
  | _ => 0

/-- The fields are one cell each, one behind the other from cell i on, none blank. -/
def fieldsPlain (P : Program) : Nat → List Field → Bool
  | _, [] => true
  | i, f :: fs => f.name != "_" && f.offset == i && shape? P f.type == some none && fieldsPlain P (i + 1) fs

/-- The kinds of a comparison. -/
def eqKind (P : Program) (t : TypeId) : List Nat :=
  match P.underlying t with
  | some (.struct fs) => if !P.stoodInHeld t && !P.eqGuardType P.depth t && fieldsPlain P 0 fs.toList then 2 :: fs.toList.map (fun f => kindOf P f.type) else []
  | _ => [kindOf P t]

def aEq (ek : List Nat) (x y : AV) : Option Bool :=
  match ek, x, y with
  | 2 :: ks, .agg a, .agg b => eqCells ks a b
  | [k], x, y => eqF k x y
  | _, _, _ => none

/-- A binary operator; ek: the kind of comparison of its operands' type. -/
def aBin (op : BinOp) (ek : List Nat) (x y : AV) : Option AV :=
  match op, x, y with
  | .shl, .int k a, .int _ b => sh2 k .shl a b
  | .shr, .int k a, .int _ b => sh2 k .shr a b
  | op, .int k a, .int k' b => if k = k' then b2 k op a b else none
  | op, .str a, .str b => s2 op a b
  | .eql, x, y => (aEq ek x y).map .bool
  | .neq, x, y => (aEq ek x y).map fun b => .bool !b
  | _, _, _ => none

def aUn (op : UnOp) (x : AV) : Option AV :=
  match op, x with
  | .neg, .int k n => some (.int k (k.wrap (0 - n)))
  | .xor, .int k n => some (.int k (k.wrap (BitVec.ofInt k.bits (if k.signed then -1 else k.max) ^^^ BitVec.ofInt k.bits n).toNat))
  | .not, .bool b => some (.bool !b)
  | _, _ => none

def aPick (c a b : AV) : Option AV :=
  match c with
  | .bool true => some a
  | .bool false => some b
  | _ => none

def aNil (x : AV) : Option AV :=
  match x with
  | .ptr i o => some (.ptr i o)
  | .func (.func f) a b => some (.func (.func f) a b)
  | _ => none

/-- x, moved by so many cells. -/
def aOff (off : Nat) (x : AV) : Option AV :=
  match x with
  | .ptr i o => some (.ptr i (o + off))
  | _ => none

/-- The address of an element of a slice. -/
def aIdxS (size : Nat) (x ix : AV) : Option AV :=
  match x, ix with
  | .slice i o len _, .int _ n => if 0 ≤ n ∧ n < len then some (.ptr i (o + n.toNat * size)) else none
  | _, _ => none
/-- The address of an element of an array behind a pointer. -/
def aIdxA (len size : Nat) (x ix : AV) : Option AV :=
  match x, ix with
  | .ptr i o, .int _ n => if 0 ≤ n ∧ n < len then some (.ptr i (o + n.toNat * size)) else none
  | _, _ => none

def aPart (sh : Option Nat) (cs : List AV) (off : Nat) : Option AV :=
  match sh with
  | some n => if off + n ≤ cs.length then some (.agg ((cs.drop off).take n)) else none
  | none => cs[off]?
def aFld (sh : Option Nat) (off : Nat) (x : AV) : Option AV :=
  match x with
  | .agg cs => aPart sh cs off
  | _ => none
/-- An element of an array value. -/
def aIdxV (len size : Nat) (sh : Option Nat) (x ix : AV) : Option AV :=
  match x, ix with
  | .agg cs, .int _ n => if 0 ≤ n ∧ n < len then aPart sh cs (n.toNat * size) else none
  | _, _ => none
/-- A byte of a string. -/
def aIdxStr (x ix : AV) : Option AV :=
  match x, ix with
  | .str s, .int _ n => if 0 ≤ n then (s[n.toNat]?).map fun b => .int .u8 b.toNat else none
  | _, _ => none

def aExt (ix : Nat) (x : AV) : Option AV :=
  match x with
  | .tup vs => vs[ix]?
  | _ => none

def aLenStr : AV → Option AV
  | .str s => some (.int .i64 s.size)
  | _ => none
def aLenS : AV → Option AV
  | .nilslice | .dang => some (.int .i64 0)
  | .slice _ _ n _ => some (.int .i64 n)
  | _ => none

def aMin2 (x y : AV) : Option AV :=
  match x, y with
  | .int k a, .int _ b => some (.int k (if b < a then b else a))
  | _, _ => none
def aMax2 (x y : AV) : Option AV :=
  match x, y with
  | .int k a, .int _ b => some (.int k (if b > a then b else a))
  | _, _ => none
def aFold (f : AV → AV → Option AV) : AV → List AV → Option AV
  | x, [] => some x
  | x, y :: ys => match f x y with | some z => aFold f z ys | none => none

def lowOf : Option AV → Option Int
  | none => some 0
  | some (.int _ n) => some n
  | _ => none
def highOf (len : Nat) : Option AV → Option Int
  | none => some len
  | some (.int _ n) => some n
  | _ => none

def aInt (kd : IntKind) : AV → Option AV
  | .int _ n => some (.int kd (kd.wrap n))
  | _ => none
def aStr : AV → Option AV
  | .str s => some (.str s)
  | _ => none
/-- A part of a string. -/
def aSliceStr (x : AV) (lo hi : Option AV) : Option AV :=
  match x with
  | .str s =>
    match lowOf lo, highOf s.size hi with
    | some l, some h => if 0 ≤ l ∧ l ≤ h ∧ h ≤ s.size then some (.str (s.extract l.toNat h.toNat)) else none
    | _, _ => none
  | _ => none
/-- A part of a slice (elements of size cells). -/
def aSlice (size : Nat) (x : AV) (lo hi : Option AV) : Option AV :=
  match x with
  | .nilslice =>
    match lowOf lo, highOf 0 hi with
    | some l, some h => if l = 0 ∧ h = 0 then some .nilslice else none
    | _, _ => none
  | .dang =>
    match lowOf lo, highOf 0 hi with
    | some l, some h => if l = 0 ∧ h = 0 then some .dang else none
    | _, _ => none
  | .slice i o len es =>
    match lowOf lo, highOf len hi with
    | some l, some h =>
      if 0 ≤ l ∧ l ≤ h ∧ h ≤ len then
        if l = 0 then some (.slice i o h.toNat es)
        else if l = h then some .dang
        else some (.slice i (o + l.toNat * size) (h - l).toNat (if es = size then es else 0))
      else none
    | _, _ => none
  | _ => none
/-- A part of an array behind a pointer: n elements of size cells. -/
def aSliceA (n size : Nat) (x : AV) (lo hi : Option AV) : Option AV :=
  match x with
  | .ptr i o =>
    match lowOf lo, highOf n hi with
    | some l, some h =>
      if 0 ≤ l ∧ l ≤ h ∧ h ≤ n then
        if l = 0 then some (.slice i o h.toNat 0)
        else if l = h then some .dang
        else some (.slice i (o + l.toNat * size) (h - l).toNat 0)
      else none
    | _, _ => none
  | _ => none

/-- Cells written over others from a place on. -/
def splice (cs : List AV) (o : Nat) : List AV → List AV
  | [] => cs
  | v :: vs => splice (cs.set o v) (o + 1) vs

/-- A struct's or array's cells with its parts put in. -/
def aFill (place : Nat → Option (Nat × Nat)) (cells : List AV) : List (Nat × AV) → Option (List AV)
  | [] => some cells
  | (i, v) :: rest =>
    match place i, v.cells? with
    | some (off, size), some vs => if vs.length = size ∧ off + vs.length ≤ cells.length then aFill place (splice cells off vs) rest else none
    | _, _ => none

/-! what is kept in memory is worked out first (nothing changes by it) -/

def forceNat {α : Type} (n : Nat) (k : Nat → α) : α :=
  match n with
  | 0 => k 0
  | p + 1 => k (p + 1)
theorem forceNat_eq {α : Type} (n : Nat) (k : Nat → α) : forceNat n k = k n := by cases n <;> rfl
def forceInt {α : Type} (n : Int) (k : Int → α) : α :=
  match n with
  | .ofNat m => forceNat m fun m => k (.ofNat m)
  | .negSucc m => forceNat m fun m => k (.negSucc m)
theorem forceInt_eq {α : Type} (n : Int) (k : Int → α) : forceInt n k = k n := by cases n <;> simp [forceInt, forceNat_eq]
def forceAV {α : Type} (v : AV) (k : AV → α) : α :=
  match v with
  | .int kd n => forceInt n fun n => k (.int kd n)
  | .bool true => k (.bool true)
  | .bool false => k (.bool false)
  | .ptr i o => forceNat i fun i => forceNat o fun o => k (.ptr i o)
  | .slice i o l e => forceNat i fun i => forceNat o fun o => forceNat l fun l => forceNat e fun e => k (.slice i o l e)
  | v => k v
theorem forceAV_eq {α : Type} (v : AV) (k : AV → α) : forceAV v k = k v := by
  cases v <;> simp [forceAV, forceInt_eq, forceNat_eq]
  rename_i b
  cases b <;> rfl
def forceList {α : Type} (l : List AV) (k : List AV → α) : α :=
  match l with
  | [] => k []
  | v :: vs => forceAV v fun v => forceList vs fun vs => k (v :: vs)
theorem forceList_eq {α : Type} : ∀ (l : List AV) (k : List AV → α), forceList l k = k l
  | [], k => rfl
  | v :: vs, k => by simp only [forceList, forceAV_eq]; exact forceList_eq vs _

/-! memory -/

def Mem.cells? (m : Mem) (i : Nat) : Option (List AV) :=
  match m.get i with
  | .cells _ _ cs => some cs
  | _ => none

def load? (sh : Option Nat) (a : AV) (m : Mem) : Option AV :=
  match a with
  | .ptr i o =>
    match m.cells? i with
    | some cs => aPart sh cs o
    | none => none
  | _ => none
def load (sh : Option Nat) (a : AV) : M AV := fun m => (load? sh a m).map fun v => (v, m)

def alloc (ty : TypeId) (cs : List AV) : M AV := fun m => forceNat m.next fun i => forceList cs fun cs => some (.ptr i 0, { m with next := i + 1, get := fun j => if j = i then .cells ty 0 cs else m.get j })
theorem alloc_def (ty : TypeId) (cs : List AV) : alloc ty cs = fun m => some (.ptr m.next 0, m.alloc (.cells ty 0 cs)) := by funext m; simp only [alloc, forceList_eq, forceNat_eq]; rfl
def box (ty : TypeId) (v : AV) : M AV :=
  match v.cells? with
  | some cs => alloc ty cs
  | none => fail
def allocS (ty : TypeId) (es len : Nat) (cs : List AV) : M AV := fun m => forceNat m.next fun i => forceNat len fun len => forceList cs fun cs => some (.slice i 0 len es, { m with next := i + 1, get := fun j => if j = i then .cells ty 0 cs else m.get j })
theorem allocS_def (ty : TypeId) (es len : Nat) (cs : List AV) : allocS ty es len cs = fun m => some (.slice m.next 0 len es, m.alloc (.cells ty 0 cs)) := by funext m; simp only [allocS, forceList_eq, forceNat_eq]; rfl

/-- Cells stored at an address of the call's own. -/
def storeCs (a : AV) (vs : List AV) : M Unit := fun m =>
  match a with
  | .ptr i o =>
    match m.get i with
    | .cells ty fz cs => if m.base ≤ i ∧ fz ≤ o ∧ o + vs.length ≤ cs.length ∧ vs.all AV.one then forceList (splice cs o vs) fun cs => forceNat i fun i => some ((), m.set i (.cells ty fz cs)) else none
    | _ => none
  | _ => none
def store (sh : Option Nat) (a v : AV) : M AV :=
  match sh, v with
  | none, v => if v.one then bnd (storeCs a [v]) fun _ => ret .undef else fail
  | some n, .agg cs => if cs.length = n then bnd (storeCs a cs) fun _ => ret .undef else fail
  | _, _ => fail

def byteCells (s : ByteArray) : List AV := s.data.toList.map fun b => .int .u8 b.toNat

/-- The first n elements of a slice or string, as cells. -/
def elems (size n : Nat) (x : AV) (m : Mem) : Option (List AV) :=
  match x with
  | .slice i o len _ =>
    match m.cells? i with
    | some cs => if n ≤ len ∧ o + n * size ≤ cs.length then some ((cs.drop o).take (n * size)) else none
    | none => none
  | .nilslice | .dang => if n = 0 then some [] else none
  | .str s => if size = 1 ∧ n ≤ s.size then some ((byteCells s).take n) else none
  | _ => none
def count : AV → Option Nat
  | .slice _ _ n _ => some n
  | .nilslice | .dang => some 0
  | .str s => some s.size
  | _ => none

/-- append: ty the element's type, of es cells and so many bytes. -/
def append (ty es bytes : Nat) (s x : AV) : M AV := fun m =>
  match count x with
  | none => none
  | some n =>
    match elems es n x m with
    | none => none
    | some news =>
      if news.all AV.one = false then none else
      match s with
      | .nilslice => if n = 0 then some (.nilslice, m) else if n * bytes ≤ 2 ^ 45 then forceList news fun cs => forceNat m.next fun j => forceNat n fun n => some (.slice j 0 n es, { m with next := j + 1, get := fun k => if k = j then .cells ty 0 cs else m.get k }) else none
      | .dang => if n = 0 then some (.dang, m) else none
      | .slice i o len es' =>
        if n = 0 then some (.slice i o len es', m) else
        match m.get i with
        | .cells ty' fz cs =>
          if m.base ≤ i ∧ o = 0 ∧ es' = es ∧ ty' = ty ∧ fz ≤ cs.length ∧ cs.length = len * es ∧ (len + n) * bytes ≤ 2 ^ 45 then
            forceList (cs ++ news) fun cs => forceNat m.next fun j => forceNat (len + n) fun ln => some (.slice j 0 ln es, { m with next := j + 1, get := fun k => if k = j then .cells ty fz cs else if k = i then .dead else m.get k })
          else none
        | _ => none
      | _ => none

/-- copy. -/
def copy (size : Nat) (d x : AV) : M AV := fun m =>
  match count x, d with
  | some k, .slice i o len _ =>
    match elems size (min k len) x m with
    | some cs => (storeCs (.ptr i o) cs m).map fun (_, m') => (.int .i64 (min k len : Nat), m')
    | none => none
  | some _, .nilslice => some (.int .i64 0, m)
  | some _, .dang => some (.int .i64 0, m)
  | _, _ => none

/-- make of a slice; z: the element's zero cells. -/
def mkSlice (ty es bytes : Nat) (z : List AV) (len cap : AV) : M AV :=
  match len, cap with
  | .int .i64 l, .int .i64 c => if 0 ≤ l ∧ l ≤ c ∧ (bytes : Int) * c ≤ 2 ^ 45 ∧ z.length = es then allocS ty es l.toNat ((List.replicate l.toNat z).flatten) else fail
  | _, _ => fail

/-- []byte(s) -/
def toBytes (ty : TypeId) (x : AV) : M AV := fun m =>
  match x with
  | .str s => some (.slice m.next 0 s.size 1, m.alloc (.cells ty (s.size + 1) (byteCells s)))
  | _ => none
def ofByteCells : List AV → Option (List UInt8)
  | [] => some []
  | .int .u8 n :: rest => (ofByteCells rest).map fun l => UInt8.ofNat n.toNat :: l
  | _ => none
/-- string(b) -/
def countS : AV → Option Nat
  | .slice _ _ n _ => some n
  | .nilslice | .dang => some 0
  | _ => none
def ofBytes (x : AV) : M AV := fun m =>
  match countS x with
  | some n =>
    match elems 1 n x m with
    | some cs => (ofByteCells cs).map fun l => (.str ⟨l.toArray⟩, m)
    | none => none
  | none => none

/-- unsafe.SliceData -/
def sliceData (x : AV) : M AV := fun m =>
  match x with
  | .nilslice => some (.nilptr, m)
  | .slice i o len _ => if 0 < len then some (.ptr i o, m) else (m.cells? i).map fun _ => (.anyptr, m)
  | _ => none
/-- unsafe.String of an own row of bytes; ty: the bytes' type -/
def unsafeStr (ty : TypeId) (p n : AV) : M AV := fun m =>
  match p, n with
  | .nilptr, .int .i64 n => if n = 0 then some (.str .empty, m) else none
  | .anyptr, .int .i64 n => if n = 0 then some (.str .empty, m) else none
  | .ptr i o, .int .i64 n =>
    if n = 0 then some (.str .empty, m) else
    match m.get i with
    | .cells ty' fz cs =>
      if m.base ≤ i ∧ ty' = ty ∧ fz ≤ cs.length ∧ 0 ≤ n ∧ n ≤ IntKind.i64.max ∧ o = 0 ∧ n.toNat ≤ cs.length then
        (ofByteCells (cs.take n.toNat)).map fun l => (.str ⟨l.toArray⟩, m.set i (.cells ty' (max fz n.toNat) cs))
      else none
    | _ => none
  | _, _ => none

/-- A pointer turned to unsafe.Pointer. -/
def toUnsafe (x : AV) : M AV := fun m =>
  match x with
  | .ptr i o =>
    match m.cells? i with
    | some cs => if o < cs.length then some (.ptr i o, m) else none
    | none => none
  | _ => none
/-- unsafe.Pointer turned to a pointer; lies: does such a variable lie at that offset of a block of that type? -/
def fromUnsafe (size : TypeId → Nat) (lies : TypeId → Nat → Bool) (x : AV) : M AV := fun m =>
  match x with
  | .ptr i o =>
    match m.get i with
    | .cells ty _ cs => if m.base ≤ i ∧ 0 < size ty ∧ size ty ≤ cs.length ∧ lies ty o = true then some (.ptr i o, m) else none
    | _ => none
  | _ => none

/-! maps, and strings gone over -/

/-- A key, or what stands at it, as Go's. -/
def AV.key? : AV → Option Value
  | .int k n => some (.int k n)
  | .str s => some (.string s)
  | .bool b => some (.bool b)
  | _ => none
def backKey : Value → Option AV
  | .int k n => some (.int k n)
  | .string s => some (.str s)
  | .bool b => some (.bool b)
  | _ => none
/-- Is it a key of such a type? -/
def isKey : Option TypeDesc → Value → Bool
  | some (.int k), .int k' _ => decide (k = k')
  | some .string, .string _ => true
  | some .bool, .bool _ => true
  | _, _ => false
def mapFind (P : Program) (kt : TypeId) (k : Value) (es : List MapEntry) : Option (Option (Nat × Value)) :=
  match P.underlying kt with
  | some d => if isKey (some d) k then Instr.findNow d k es 0 else none
  | none => none
def newMap : M AV := fun m => some (.mp m.next, m.alloc (.other (.map #[] 0)))
/-- m[k]; z: the zero value. -/
def mapGet (P : Program) (kt : TypeId) (z : AV) (ok : Bool) (x k : AV) : M AV := fun m =>
  match x, k.key? with
  | .mp i, some kv =>
    match m.get i with
    | .other (.map es _) =>
      if m.base ≤ i then
        match mapFind P kt kv es.toList with
        | some (some (_, v)) => (backKey v).map fun a => (if ok then .tup [a, .bool true] else a, m)
        | some none => some (if ok then .tup [z, .bool false] else z, m)
        | none => none
      else none
    | _ => none
  | _, _ => none
/-- m[k] = v -/
def mapPut (P : Program) (kt : TypeId) (x k v : AV) : M AV := fun m =>
  match x, k.key?, v.key? with
  | .mp i, some kv, some vv =>
    match m.get i with
    | .other (.map es clock) =>
      if m.base ≤ i then
        match mapFind P kt kv es.toList with
        | some (some (j, _)) =>
          if Instr.sameBits 10000 (((es[j]?).map (·.key)).getD kv) kv then some (.undef, m.set i (.other (.map (es.modify j fun e => { e with key := kv, val := vv }) clock))) else none
        | some none => some (.undef, m.set i (.other (.map (es.push { key := kv, val := vv, born := clock }) (clock + 1))))
        | none => none
      else none
    | _ => none
  | _, _, _ => none
/-- A string is gone over. -/
def rangeStr (x : AV) : M AV := fun m =>
  match x with
  | .str s => some (.ptr m.next 0, m.alloc (.other (.stringIter s 0)))
  | _ => none
def nextStr (x : AV) : M AV := fun m =>
  match x with
  | .ptr i o =>
    match m.get i with
    | .other (.stringIter s pos) =>
      if m.base ≤ i ∧ o = 0 then
        if pos < s.size then some (.tup [.bool true, .int .i64 pos, .int .i32 (Utf8.decode s pos).1], m.set i (.other (.stringIter s (pos + (Utf8.decode s pos).2))))
        else some (.tup [.bool false], m)
      else none
    | _ => none
  | _ => none

mutual
theorem AV.eq_of_eqb : ∀ {a b : AV}, AV.eqb a b = true → a = b
  | a, b, h => by
    cases a <;> cases b <;> simp only [AV.eqb, Bool.false_eq_true, Bool.and_eq_true, beq_iff_eq, decide_eq_true_eq, Nat.beq_eq] at h <;> first
      | (cases h; done)
      | rfl
      | (subst h; rfl)
      | (obtain ⟨rfl, rfl⟩ := h; rfl)
      | (obtain ⟨⟨⟨rfl, rfl⟩, rfl⟩, rfl⟩ := h; rfl)
      | (rw [AV.eq_of_eqbs h])
theorem AV.eq_of_eqbs : ∀ {a b : List AV}, AV.eqbs a b = true → a = b
  | [], [], _ => rfl
  | a :: as, b :: bs, h => by
    simp only [AV.eqbs, Bool.and_eq_true] at h
    rw [AV.eq_of_eqb h.1, AV.eq_of_eqbs h.2]
  | [], _ :: _, h => by simp [AV.eqbs] at h
  | _ :: _, [], h => by simp [AV.eqbs] at h
end

end Go.Proofs.YtooogfnmhfocjaaDoor.Spl

/- The abstract machine, 2: operations, regions, code, calls. -/
namespace Go.Proofs.YtooogfnmhfocjaaDoor.Spl
open Go
set_option linter.unusedVariables false

/-! which temporaries are still wanted (a number whose bits are temporaries) -/

def bit (i : Nat) : Nat := 1 <<< i
def without (s d : Nat) : Nat := s ^^^ (s &&& d)
def opndBits : Operand → Nat
  | .tmp i => bit i
  | _ => 0
def opndsBits : List Operand → Nat
  | [] => 0
  | x :: xs => opndBits x ||| opndsBits xs
def dstBits : Option Tmp → Nat
  | some i => bit i
  | none => 0
def regionIn : List Oper → Nat → Nat
  | [], L => L
  | o :: os, L => opndsBits o.op.operands.toList ||| (match o.guard with | none => without (regionIn os L) (dstBits o.dst) | some _ => regionIn os L)
def lookupL : List (Nat × Nat) → Nat → Nat
  | [], _ => 0
  | (j, L) :: r, i => if j = i then L else lookupL r i
/-- ls: what is wanted behind each block; R: what is wanted at the end. -/
def liveIn (R : Nat) : Code → List (Nat × Nat) → Nat → Nat
  | .skip, _, L => L
  | .region _ ops _, _, L => regionIn ops.toList L
  | .seq a b, ls, L => liveIn R a ls (liveIn R b ls L)
  | .cond c x y, ls, L => opndBits c ||| liveIn R x ls L ||| liveIn R y ls L
  | .block id c, ls, L => liveIn R c ((id, L) :: ls) L
  | .loop c, ls, _ => liveIn R c ls 0
  | .exit id, ls, _ => lookupL ls id
  | .ret, _, _ => R
  | .label _, _, L => L
  | _, _, _ => 0

/-- Only the wanted temporaries are kept. -/
def mask : Nat → TM → TM
  | _, [] => []
  | L, v :: t => (if L % 2 = 1 then v else .undef) :: mask (L / 2) t
/-- The wanted temporaries, one behind the other. -/
def pack (L : Nat) : (fuel i : Nat) → TM → List AV
  | 0, _, _ => []
  | f + 1, i, t => if (L >>> i) % 2 = 1 then t.getD i .undef :: pack L f (i + 1) t else pack L f (i + 1) t
def unpack (L : Nat) : (fuel i j : Nat) → List AV → TM
  | 0, _, _, _ => []
  | f + 1, i, j, l => if (L >>> i) % 2 = 1 then l.getD j .undef :: unpack L f (i + 1) (j + 1) l else .undef :: unpack L f (i + 1) j l

/-! operations -/

/-- 0: neither reads nor writes memory; 1: reads; 2: writes, makes or calls. -/
def opClass (P : Program) : Op → Nat
  | .move _ | .assign _ | .pick .. | .build .. | .nilCheck _ | .binOp .. | .unOp .. | .fieldAddr .. | .field .. | .indexAddr .. | .index .. | .extract .. | .makeFunc .. | .slice .. => 0
  | .call { callee := .builtin .len, .. } | .call { callee := .builtin .min, .. } | .call { callee := .builtin .max, .. } => 0
  | .load .. => 1
  | .convert _ dst _ => (match P.underlying dst with | some (.int _) => 0 | _ => 2)
  | _ => 2

def fieldOf (P : Program) (s : TypeId) (f : Nat) : Option Field :=
  match P.underlying s with
  | some (.struct fs) => fs[f]?
  | _ => none

def placesOf (P : Program) : List Field → Option (List (Nat × Nat))
  | [] => some []
  | f :: fs => match size? P f.type, placesOf P fs with | some n, some r => some ((f.offset, n) :: r) | _, _ => none
def buildOf (P : Program) (t : TypeId) (parts : List (Nat × AV)) : Option AV :=
  match zeroCells? P t, P.underlying t with
  | some z, some (.struct fs) => match placesOf P fs.toList with | some pl => (aFill (fun i => pl[i]?) z parts).map .agg | none => none
  | some z, some (.array _ e) => match size? P e with | some n => (aFill (fun i => some (i * n, n)) z parts).map .agg | none => none
  | _, _ => none

def infoBytes (P : Program) (t : TypeId) : Nat := P.bytesOf t

/-- A built-in function. -/
def aBuiltin {ρ : Type} (P : Program) (b : Builtin) (ats : List TypeId) (ty : TypeId) (args : List AV) (k : AV → M ρ) : M ρ :=
  match b, ats, args with
  | .len, [t], [x] =>
    match P.underlying t with
    | some .string => lp (aLenStr x) k
    | some (.slice _) => lp (aLenS x) k
    | some (.array n _) => k (.int .i64 n)
    | some (.pointer arr) => (match P.underlying arr with | some (.array n _) => k (.int .i64 n) | _ => fail)
    | _ => fail
  | .min, _, x :: xs => lp (aFold aMin2 x xs) k
  | .max, _, x :: xs => lp (aFold aMax2 x xs) k
  | .append, [st, xt], [s, x] =>
    match P.underlying st, P.underlying xt with
    | some (.slice _), some (.int _) => fail
    | some (.slice e), some _ => (match size? P e, zeroCells? P e with | some n, some z => if z.length = n ∧ 0 < n ∧ 0 < infoBytes P e then bnd (append e n (infoBytes P e) s x) k else fail | _, _ => fail)
    | _, _ => fail
  | .copy, dt :: _, [d, x] =>
    match P.underlying dt with
    | some (.slice e) => (match size? P e with | some n => bnd (copy n d x) k | none => fail)
    | _ => fail
  | .unsafeSliceData, _, [x] => (match P.underlying ty with | some (.pointer _) => bnd (sliceData x) k | _ => fail)
  | .unsafeString, [pt, _], [p, n] =>
    match P.underlying pt with
    | some (.pointer e) => if size? P e = some 1 then bnd (unsafeStr e p n) k else fail
    | _ => fail
  | _, _, _ => fail

def aConv {ρ : Type} (P : Program) (src dst : TypeId) (x : AV) (k : AV → M ρ) : M ρ :=
  match P.underlying src, P.underlying dst, x with
  | some .unsafePointer, some (.pointer u), x => if (size? P u).isSome then bnd (fromUnsafe P.cellsOf (fun ty o => rowAt P (sameLayout P P.depth · u) P.depth ty 1 o 1) x) k else fail
  | some (.pointer t), some .unsafePointer, x => if (size? P t).getD 0 = 0 then fail else bnd (toUnsafe x) k
  | some .unsafePointer, _, _ | _, some .unsafePointer, _ => fail
  | some _, some (.int kd), x => lp (aInt kd x) k
  | some .string, some (.slice e), x => (match P.underlying e with | some (.int .u8) => if size? P e == some 1 && infoBytes P e == 1 then bnd (toBytes e x) k else fail | _ => fail)
  | some .string, some .string, x => lp (aStr x) k
  | some (.slice e), some .string, x => (match P.underlying e with | some (.int .u8) => bnd (ofBytes x) k | _ => fail)
  | _, _, _ => fail

def callee {ρ : Type} (call : Nat → List AV → M AV) (f : AV) (args : List AV) (k : AV → M ρ) : M ρ :=
  match f with
  | .func (.func i) first captured => bnd (call i (first ++ args ++ captured)) k
  | _ => fail

def TM.evs (t : TM) (xs : List Operand) : List AV := xs.map t.ev

def aop {ρ : Type} (P : Program) (call : Nat → List AV → M AV) (o : Oper) (t : TM) (k : AV → M ρ) : M ρ :=
  match o.op with
  | .move x | .assign x => k (t.ev x)
  | .pick c a b => lp (aPick (t.ev c) (t.ev a) (t.ev b)) k
  | .alloc e => (match zeroCells? P e with | some z => bnd (alloc e z) k | none => fail)
  | .box e x => bnd (box e (t.ev x)) k
  | .build ty parts => lp (buildOf P ty (parts.toList.map fun (i, x) => (i, t.ev x))) k
  | .buildSlice ty len parts =>
    match P.underlying ty with
    | some (.slice e) =>
      match size? P e, zeroCells? P e with
      | some n, some z =>
        if len * n ≤ 2 ^ 24 ∧ z.length = n then
          lp (aFill (fun i => some (i * n, n)) ((List.replicate len z).flatten) (parts.toList.map fun (i, x) => (i, t.ev x))) fun cs => bnd (allocS e n len cs) k
        else fail
      | _, _ => fail
    | _ => fail
  | .load ty a => (match shape? P ty with | some sh => bnd (load sh (t.ev a)) k | none => fail)
  | .store ty a x => (match shape? P ty with | some sh => bnd (store sh (t.ev a) (t.ev x)) k | none => fail)
  | .nilCheck x => lp (aNil (t.ev x)) k
  | .binOp op ty x y _ => lp (aBin op (match op with | .eql | .neq => eqKind P ty | _ => []) (t.ev x) (t.ev y)) k
  | .unOp op _ x => lp (aUn op (t.ev x)) k
  | .convert src dst x => aConv P src dst (t.ev x) k
  | .makeFunc fn first captured => k (.func fn (t.evs first.toList) (t.evs captured.toList))
  | .makeSlice ty l c =>
    match P.underlying ty with
    | some (.slice e) => (match size? P e, zeroCells? P e with | some n, some z => if 0 < infoBytes P e then bnd (mkSlice e n (infoBytes P e) z (t.ev l) (t.ev c)) k else fail | _, _ => fail)
    | _ => fail
  | .slice ty x lo hi none =>
    match P.underlying ty with
    | some .string => lp (aSliceStr (t.ev x) (lo.map t.ev) (hi.map t.ev)) k
    | some (.slice e) => (match size? P e with | some n => lp (aSlice n (t.ev x) (lo.map t.ev) (hi.map t.ev)) k | none => fail)
    | some (.array n e) => (match size? P e with | some c => lp (aSliceA n c (t.ev x) (lo.map t.ev) (hi.map t.ev)) k | none => fail)
    | _ => fail
  | .fieldAddr s x f => (match fieldOf P s f with | some fd => if (size? P fd.type).getD 0 = 0 then fail else lp (aOff fd.offset (t.ev x)) k | none => fail)
  | .field s x f => (match fieldOf P s f with | some fd => (match shape? P fd.type with | some sh => lp (aFld sh fd.offset (t.ev x)) k | none => fail) | none => fail)
  | .indexAddr ty x ix =>
    match P.underlying ty with
    | some (.slice e) => (match size? P e with | some n => lp (aIdxS n (t.ev x) (t.ev ix)) k | none => fail)
    | some (.array len e) => (match size? P e with | some n => lp (aIdxA len n (t.ev x) (t.ev ix)) k | none => fail)
    | _ => fail
  | .index ty x ix =>
    match P.underlying ty with
    | some .string => lp (aIdxStr (t.ev x) (t.ev ix)) k
    | some (.array len e) => (match size? P e, shape? P e with | some n, some sh => lp (aIdxV len n sh (t.ev x) (t.ev ix)) k | _, _ => fail)
    | _ => fail
  | .extract x ix => lp (aExt ix (t.ev x)) k
  | .makeMap _ none => bnd newMap k
  | .lookup ty x ix ok =>
    match P.underlying ty with
    | some (.map kt et) => (match (P.info? et).bind (·.zero) with | some z => bnd (mapGet P kt (Value.av z) ok (t.ev x) (t.ev ix)) k | none => fail)
    | _ => fail
  | .mapUpdate ty x ix v | .insert ty x ix v =>
    match P.underlying ty with
    | some (.map kt _) => bnd (mapPut P kt (t.ev x) (t.ev ix) (t.ev v)) k
    | _ => fail
  | .range ty x =>
    match P.underlying ty with
    | some .string => bnd (rangeStr (t.ev x)) k
    | _ => fail
  | .next x true => bnd (nextStr (t.ev x)) k
  | .call { callee := .value f, args, .. } => callee call (t.ev f) (t.evs args.toList) k
  | .call { callee := .builtin b, args, argTypes } => aBuiltin P b argTypes.toList o.type (t.evs args.toList) k
  | _ => fail

/-! regions -/

/-- Which way a guard goes: (the slot, the bool) or that it was passed over. -/
def guardOf (ops : List Oper) (t : TM) (j : Nat) : Option (Tmp × AV) :=
  match ops[j]? with
  | some o => match o.dst with
    | some d => some (d, t.getD d .undef)
    | none => none
  | none => none

def guarded {ρ : Type} (g : Option (Tmp × AV)) (sk want : Bool) (yes no : TM → M ρ) (t : TM) : M ρ :=
  match g with
  | some (d, v) =>
    if sk then (match v with | .tup [] => no t | _ => fail)
    else if want then mc v (yes (t.set d (.bool true))) (no (t.set d (.bool false))) else mc v (no (t.set d (.bool true))) (yes (t.set d (.bool false)))
  | none => fail

/-- The operations of a region in the order of the text; sk: which were passed over. -/
def runOps {ρ : Type} (P : Program) (call : Nat → List AV → M AV) (all : List Oper) : (i sk : Nat) → List Oper → (TM → M ρ) → TM → M ρ
  | _, _, [], K, t => K t
  | i, sk, o :: os, K, t =>
    match o.guard with
    | none => aop P call o t fun v => runOps P call all (i + 1) sk os K (t.put o.dst v)
    | some (j, want) =>
      guarded (guardOf all t j) (Nat.testBit sk j) want
        (fun t => aop P call o t fun v => runOps P call all (i + 1) sk os K (t.put o.dst v))
        (fun t => runOps P call all (i + 1) (sk ||| 2 ^ i) os K (t.put o.dst (.tup []))) t

/-- The cell reads the same in that memory. -/
def same {ρ : Type} (sh : Option Nat) (a v : AV) (m : Mem) (k : M ρ) : M ρ :=
  match load? sh a m with
  | some u => (match AV.eqb u v with | true => k | false => fail)
  | none => fail

structure Seen where
  snaps : List (Nat × Mem)
  loads : List (Nat × Option Nat × AV × AV)

def sameIn {ρ : Type} (bf : Nat) (sh : Option Nat) (a v : AV) : List (Nat × Mem) → M ρ → M ρ
  | [], k => k
  | (h, m) :: r, k => if Nat.testBit bf h then sameIn bf sh a v r k else same sh a v m (sameIn bf sh a v r k)
def sameNow {ρ : Type} (bf : Nat) (m : Mem) : List (Nat × Option Nat × AV × AV) → M ρ → M ρ
  | [], k => k
  | (l, sh, a, v) :: r, k => if Nat.testBit bf l then sameNow bf m r k else same sh a v m (sameNow bf m r k)

/-- The operations of a region that draws its order, in the order of the text; what is loaded must be the same wherever it might be loaded. -/
def runDraw {ρ : Type} (P : Program) (call : Nat → List AV → M AV) (all : List Oper) (bf : List Nat) : (sk i : Nat) → List Oper → List (Nat × Mem) → List (Nat × Option Nat × AV × AV) → (TM → M ρ) → TM → M ρ
  | _, _, [], _, _, K, t => K t
  | sk, i, o :: os, ms, ls, K, t =>
    let go (t : TM) : M ρ :=
      match opClass P o.op with
      | 0 => aop P call o t fun v => runDraw P call all bf sk (i + 1) os ms ls K (t.put o.dst v)
      | 1 =>
        match o.op with
        | .load ty a =>
          (match shape? P ty with
          | some sh => bnd (load sh (t.ev a)) fun v => sameIn (bf.getD i 0) sh (t.ev a) v ms (runDraw P call all bf sk (i + 1) os ms ((i, sh, t.ev a, v) :: ls) K (t.put o.dst v))
          | none => fail)
        | _ => fail
      | _ => snap fun m => aop P call o t fun v => snap fun m' => sameNow (bf.getD i 0) m' ls (runDraw P call all bf sk (i + 1) os ((i, m) :: ms) ls K (t.put o.dst v))
    match o.guard with
    | none => go t
    | some (j, want) => guarded (guardOf all t j) (Nat.testBit sk j) want go (fun t => runDraw P call all bf (sk ||| 2 ^ i) (i + 1) os ms ls K (t.put o.dst (.tup []))) t

/-- Which operations stand ahead of each, by the edges that always bind. -/
def beforeOf (acc : List Nat) (o : Oper) : Nat := o.after.toList.foldr (fun e s => if Region.binds .any e then s ||| 2 ^ e.on ||| acc.getD e.on 0 else s) 0
def befores : List Nat → List Oper → List Nat
  | acc, [] => acc
  | acc, o :: os => befores (acc ++ [beforeOf acc o]) os

def namesOf (o : Oper) : List Tmp := o.dst.toList ++ o.op.operands.toList.filterMap fun | .tmp t => some t | _ => none

def everyI : Nat → (Nat → Oper → Bool) → List Oper → Bool
  | _, _, [] => true
  | i, p, o :: os => p i o && everyI (i + 1) p os

/-- May it be done ahead of what is ordered ahead of it in the text alone? -/
def isAlloc : Op → Bool
  | .alloc _ => true
  | _ => false

/-- May the region draw its order: are its temporaries, its guards and its writing operations ordered? A new variable may be made earlier than the text says, if what stands behind it stands behind all that the text has ahead of it. -/
def drawOk (P : Program) (ops : List Oper) (bf : List Nat) : Bool :=
  everyI 0 (fun j o =>
    o.after.all (fun e => !Region.binds .any e || e.on < j) &&
    (namesOf o).all (fun t => everyI 0 (fun i o' => o'.dst != some t || i == j || Nat.testBit (bf.getD (max i j) 0) (min i j)) ops) &&
    (match o.guard with
     | none => true
     | some (q, _) => Nat.testBit (bf.getD j 0) q && (match ops[q]? with | some oq => (match oq.dst with | some d => everyI 0 (fun k o' => k == q || o'.dst != some d) ops | none => false) | none => false)) &&
    (opClass P o.op != 2 || everyI 0 (fun i o' => opClass P o'.op != 2 || j ≤ i || Nat.testBit (bf.getD j 0) i || isAlloc o.op) ops) &&
    everyI 0 (fun a oa => !isAlloc oa.op || !Nat.testBit (bf.getD j 0) a || everyI 0 (fun i o' => opClass P o'.op != 2 || a ≤ i || Nat.testBit (bf.getD j 0) i) ops) ops) ops

/-! code -/

def loopN {ρ : Type} (step : (List AV → M ρ) → List AV → M ρ) : Nat → List AV → M ρ
  | 0, _ => fail
  | n + 1, l => step (loopN step n) l

abbrev Kont (ρ : Type) := Exit → TM → M ρ

def execK {ρ : Type} (P : Program) (call : Nat → List AV → M AV) (n nt R : Nat) : Code → List (Nat × Nat) → Nat → Kont ρ → TM → M ρ
  | .skip, _, _, K, t => K .normal t
  | .label _, _, _, K, t => K .normal t
  | .region _ ops draw, _, _, K, t =>
    if draw then (if drawOk P ops.toList (befores [] ops.toList) then runDraw P call ops.toList (befores [] ops.toList) 0 0 ops.toList [] [] (K .normal) t else fail)
    else runOps P call ops.toList 0 0 ops.toList (K .normal) t
  | .seq (.region id ops draw) b, ls, L, K, t =>
    execK P call n nt R (.region id ops draw) ls 0 (fun e t' => match e with | .normal => execK P call n nt R b ls L K t' | e => K e t') t
  | .seq a b, ls, L, K, t =>
    execK P call n nt R a ls (liveIn R b ls L) (fun e t' => match e with | .normal => execK P call n nt R b ls L K (mask (liveIn R b ls L) t') | e => K e t') t
  | .cond c x y, ls, L, K, t => mc (t.ev c) (execK P call n nt R x ls L K t) (execK P call n nt R y ls L K t)
  | .block id c, ls, L, K, t =>
    execK P call n nt R c ((id, L) :: ls) L (fun e t' => match e with | .exit j => if j = id then K .normal t' else K (.exit j) t' | e => K e t') t
  | .loop c, ls, _, K, t =>
    loopN (fun rec l => execK P call n nt R c ls (liveIn R c ls 0) (fun e t' => match e with | .normal => rec (pack (liveIn R c ls 0) nt 0 t') | e => K e t') (unpack (liveIn R c ls 0) nt 0 0 l)) n
      (pack (liveIn R c ls 0) nt 0 t)
  | .exit id, _, _, K, t => K (.exit id) t
  | .ret, _, _, K, t => K .ret t
  | _, _, _, _, _ => fail

/-! calls -/

def resultBits : List ResultVar → Nat
  | [] => 0
  | .tmp i :: r => bit i ||| resultBits r
  | .cell i _ :: r => bit i ||| resultBits r
def resultsK (P : Program) (t : TM) : List ResultVar → (List AV → M AV) → M AV
  | [], k => k []
  | .tmp i :: r, k => resultsK P t r fun vs => k (t.getD i .undef :: vs)
  | .cell i ty :: r, k =>
    match shape? P ty with
    | some sh => bnd (load sh (t.getD i .undef)) fun v => resultsK P t r fun vs => k (v :: vs)
    | none => fail
def tuple : List AV → AV
  | [v] => v
  | vs => .tup vs
def endK (P : Program) (rs : List ResultVar) : Kont AV := fun e t =>
  match e with
  | .normal | .ret => resultsK P t rs fun vs => ret (tuple vs)
  | _ => fail

abbrev Ext := Nat → Option (List AV → M AV)

def bodyK (P : Program) (call : Nat → List AV → M AV) (n : Nat) (fn : Func) (args : List AV) : M AV :=
  match fn.body with
  | some c => execK P call n fn.ntmps (resultBits fn.results.toList) c [] (resultBits fn.results.toList) (endK P fn.results.toList) (args ++ List.replicate (fn.ntmps - args.length) .undef)
  | none => fail
def fcall (P : Program) (ext : Ext) : Nat → Nat → List AV → M AV
  | 0, _, _ => fail
  | n + 1, f, args =>
    match ext f with
    | some g => g args
    | none =>
      match P.funcs[f]? with
      | some fn => bodyK P (fcall P ext n) n fn args
      | none => fail

end Go.Proofs.YtooogfnmhfocjaaDoor.Spl

/- The abstract machine, 3: how its values and memory stand to Go's. -/
namespace Go.Proofs.YtooogfnmhfocjaaDoor.Spl
open Go Go.RowKit
set_option linter.unusedVariables false
set_option linter.unusedSimpArgs false

/-- Where objects lie. -/
structure Gm where
  base : Nat
  blk : Nat → Nat
  sz : Nat → Nat

mutual
inductive VR (g : Gm) (n : Nat) : AV → Value → Prop
  | undef (v : Value) : VR g n .undef v
  | bool (b : Bool) : VR g n (.bool b) (.bool b)
  | int (k : IntKind) (x : Int) : VR g n (.int k x) (.int k x)
  | str (s : ByteArray) : VR g n (.str s) (.string s)
  | nilptr : VR g n .nilptr (.pointer none)
  | ptr (i o : Nat) (h : i < n) : VR g n (.ptr i o) (.pointer (some ⟨g.blk i, o, none⟩))
  | anyptr (p : Option Addr) : VR g n .anyptr (.pointer p)
  | nilslice : VR g n .nilslice (.slice none 0 0)
  | slice (i o len es cap : Nat) (h : i < n) (hc : len ≤ cap) (hs : g.base ≤ i → es ≠ 0 → o + cap * es ≤ g.sz i) : VR g n (.slice i o len es) (.slice (some ⟨g.blk i, o, none⟩) len cap)
  | dang (a : Addr) (cap : Nat) : VR g n .dang (.slice (some a) 0 cap)
  | func (fn : Fn) (a c : List AV) (x y : List Value) (ha : VRs g n a x) (hc : VRs g n c y) : VR g n (.func fn a c) (.func fn x.toArray y.toArray)
  | nilfunc : VR g n .nilfunc .nilFunc
  | iface (t : TypeId) (v : AV) (x : Value) (h : VR g n v x) : VR g n (.iface t v) (.iface t x)
  | nilface : VR g n .nilface .nilIface
  | agg (cs : List AV) (xs : List Value) (h : VRs g n cs xs) : VR g n (.agg cs) (.agg xs.toArray)
  | tup (cs : List AV) (xs : List Value) (h : VRs g n cs xs) : VR g n (.tup cs) (.tuple xs.toArray)
  | mp (i : Nat) (h : i < n) : VR g n (.mp i) (.map (some (g.blk i)))
inductive VRs (g : Gm) (n : Nat) : List AV → List Value → Prop
  | nil : VRs g n [] []
  | cons (v : AV) (x : Value) (vs : List AV) (xs : List Value) (h : VR g n v x) (t : VRs g n vs xs) : VRs g n (v :: vs) (x :: xs)
end

structure Ext' (g : Gm) (n : Nat) (g' : Gm) (n' : Nat) : Prop where
  base : g'.base = g.base
  le : n ≤ n'
  blk : ∀ i, i < n → g'.blk i = g.blk i
  sz : ∀ i, i < n → g'.sz i = g.sz i

theorem Ext'.refl (g : Gm) (n : Nat) : Ext' g n g n := ⟨rfl, Nat.le_refl _, fun _ _ => rfl, fun _ _ => rfl⟩
theorem Ext'.trans {g g' g'' : Gm} {n n' n'' : Nat} (h : Ext' g n g' n') (k : Ext' g' n' g'' n'') : Ext' g n g'' n'' :=
  ⟨k.base.trans h.base, Nat.le_trans h.le k.le, fun i hi => (k.blk i (Nat.lt_of_lt_of_le hi h.le)).trans (h.blk i hi), fun i hi => (k.sz i (Nat.lt_of_lt_of_le hi h.le)).trans (h.sz i hi)⟩

mutual
theorem VR.mono {g g' : Gm} {n n' : Nat} (e : Ext' g n g' n') : ∀ {v : AV} {x : Value}, VR g n v x → VR g' n' v x
  | _, _, .undef v => .undef v
  | _, _, .bool b => .bool b
  | _, _, .int k x => .int k x
  | _, _, .str s => .str s
  | _, _, .nilptr => .nilptr
  | _, _, .ptr i o h => by rw [← e.blk i h]; exact .ptr i o (Nat.lt_of_lt_of_le h e.le)
  | _, _, .anyptr p => .anyptr p
  | _, _, .nilslice => .nilslice
  | _, _, .slice i o len es cap h hc hs => by
    rw [← e.blk i h]; exact .slice i o len es cap (Nat.lt_of_lt_of_le h e.le) hc (by rw [e.base, e.sz i h]; exact hs)
  | _, _, .dang a cap => .dang a cap
  | _, _, .func fn a c x y ha hc => .func fn a c x y (VRs.mono e ha) (VRs.mono e hc)
  | _, _, .nilfunc => .nilfunc
  | _, _, .iface t v x h => .iface t v x (VR.mono e h)
  | _, _, .nilface => .nilface
  | _, _, .agg cs xs h => .agg cs xs (VRs.mono e h)
  | _, _, .tup cs xs h => .tup cs xs (VRs.mono e h)
  | _, _, .mp i h => by rw [← e.blk i h]; exact .mp i (Nat.lt_of_lt_of_le h e.le)
theorem VRs.mono {g g' : Gm} {n n' : Nat} (e : Ext' g n g' n') : ∀ {v : List AV} {x : List Value}, VRs g n v x → VRs g' n' v x
  | _, _, .nil => .nil
  | _, _, .cons v x vs xs h t => .cons v x vs xs (VR.mono e h) (VRs.mono e t)
end

theorem VRs.length {g : Gm} {n : Nat} : ∀ {vs : List AV} {xs : List Value}, VRs g n vs xs → vs.length = xs.length
  | _, _, .nil => rfl
  | _, _, .cons _ _ _ _ _ t => by simp [VRs.length t]
theorem VRs.get {g : Gm} {n : Nat} : ∀ {vs : List AV} {xs : List Value} (h : VRs g n vs xs) (i : Nat) {v : AV}, vs[i]? = some v → ∃ x, xs[i]? = some x ∧ VR g n v x
  | _, _, .nil, i, v, hv => by simp at hv
  | _, _, .cons a b vs xs h t, 0, v, hv => by simp at hv; subst hv; exact ⟨b, by simp, h⟩
  | _, _, .cons a b vs xs h t, i + 1, v, hv => by
    simp at hv; obtain ⟨x, hx, r⟩ := VRs.get t i hv; exact ⟨x, by simpa using hx, r⟩
theorem VRs.append {g : Gm} {n : Nat} : ∀ {a b : List AV} {x y : List Value}, VRs g n a x → VRs g n b y → VRs g n (a ++ b) (x ++ y)
  | _, _, _, _, .nil, k => k
  | _, _, _, _, .cons v x vs xs h t, k => .cons v x _ _ h (VRs.append t k)
theorem VRs.take {g : Gm} {n : Nat} (j : Nat) : ∀ {a : List AV} {x : List Value}, VRs g n a x → VRs g n (a.take j) (x.take j) := by
  induction j with
  | zero => intro a x _; simp; exact .nil
  | succ j ih => intro a x h; cases h with
    | nil => simp; exact .nil
    | cons v x vs xs h t => simpa using .cons v x _ _ h (ih t)
theorem VRs.drop {g : Gm} {n : Nat} (j : Nat) : ∀ {a : List AV} {x : List Value}, VRs g n a x → VRs g n (a.drop j) (x.drop j) := by
  induction j with
  | zero => intro a x h; simpa using h
  | succ j ih => intro a x h; cases h with
    | nil => simp; exact .nil
    | cons v x vs xs h t => simpa using ih t
theorem VRs.set {g : Gm} {n : Nat} {v : AV} {x : Value} (hv : VR g n v x) : ∀ {a : List AV} {xs : List Value} (j : Nat), VRs g n a xs → VRs g n (a.set j v) (xs.set j x)
  | _, _, j, .nil => by simp; exact .nil
  | _, _, 0, .cons _ _ _ _ h t => by simpa using .cons _ _ _ _ hv t
  | _, _, j + 1, .cons _ _ _ _ h t => by simpa using .cons _ _ _ _ h (VRs.set hv j t)
theorem VRs.flatten_replicate {g : Gm} {n : Nat} {z : List AV} {x : List Value} (h : VRs g n z x) : ∀ k : Nat, VRs g n ((List.replicate k z).flatten) ((List.replicate k x).flatten)
  | 0 => by simp; exact .nil
  | k + 1 => by simpa [List.replicate_succ] using VRs.append h (VRs.flatten_replicate h k)
theorem VRs.ofFn {g : Gm} {n : Nat} {α : Type} (f : α → AV) (h : α → Value) (hf : ∀ a, VR g n (f a) (h a)) : ∀ l : List α, VRs g n (l.map f) (l.map h)
  | [] => .nil
  | a :: l => .cons _ _ _ _ (hf a) (VRs.ofFn f h hf l)
/-- Pointwise. -/
theorem VRs.of {g : Gm} {n : Nat} : ∀ {vs : List AV} {xs : List Value}, vs.length = xs.length → (∀ (i : Nat) v x, vs[i]? = some v → xs[i]? = some x → VR g n v x) → VRs g n vs xs
  | [], [], _, _ => .nil
  | v :: vs, x :: xs, hl, h => .cons _ _ _ _ (h 0 v x (by simp) (by simp)) (VRs.of (by simpa using hl) fun i a b ha hb => h (i + 1) a b (by simpa using ha) (by simpa using hb))
  | [], _ :: _, hl, _ => by simp at hl
  | _ :: _, [], hl, _ => by simp at hl

/-- One cell. -/
theorem VR.oneCell {g : Gm} {n : Nat} {v : AV} {x : Value} (h : VR g n v x) (hv : v.one = true) : x.oneCell' = true := by
  cases h <;> simp_all [AV.one, Value.oneCell']
theorem VR.cells {g : Gm} {n : Nat} {v : AV} {x : Value} {cs : List AV} (h : VR g n v x) (hv : v.cells? = some cs) : VRs g n cs x.cells.toList := by
  cases h <;> simp [AV.cells?] at hv <;> subst hv <;> simp [Value.cells]
  case agg h => exact h
  all_goals exact .cons _ _ _ _ (by constructor <;> assumption) .nil

/-- The scalar constants. -/
theorem VR.sc (g : Gm) (n : Nat) (x : Value) : VR g n (Value.sc x) x := by
  unfold Value.sc
  split <;> constructor
theorem VR.av (g : Gm) (n : Nat) (x : Value) : VR g n (Value.av x) x := by
  unfold Value.av
  split
  · rename_i cs
    have := VRs.ofFn (g := g) (n := n) Value.sc id (fun a => VR.sc g n a) cs.toList
    rw [List.map_id] at this
    exact .agg _ _ this
  · exact VR.sc g n x

/-- A world of reference, and which of its blocks no one turns. -/
structure Ref where
  w : World
  S : Nat → Prop
  lt : ∀ k, S k → k < w.heap.size

structure Keeps (W : Ref) (w : World) : Prop where
  os : w.os = W.w.os
  tape : w.tape = W.w.tape
  output : w.output = W.w.output
  size : W.w.heap.size ≤ w.heap.size
  block : ∀ k, W.S k → w.heap[k]? = W.w.heap[k]?

theorem Keeps.trans {W : Ref} {w w' : World} (h : Keeps W w) (k : w'.os = w.os ∧ w'.tape = w.tape ∧ w'.output = w.output ∧ w.heap.size ≤ w'.heap.size ∧ ∀ k, W.S k → w'.heap[k]? = w.heap[k]?) : Keeps W w' :=
  ⟨k.1.trans h.os, k.2.1.trans h.tape, k.2.2.1.trans h.output, Nat.le_trans h.size k.2.2.2.1, fun i hi => (k.2.2.2.2 i hi).trans (h.block i hi)⟩
theorem Keeps.drew {W : Ref} {w : World} (h : Keeps W w) : Keeps W w.drew := ⟨h.os, h.tape, h.output, h.size, h.block⟩
theorem Keeps.lt {W : Ref} {w : World} (h : Keeps W w) {k : Nat} (hk : W.S k) : k < w.heap.size := Nat.lt_of_lt_of_le (W.lt k hk) h.size
theorem Keeps.alloc {W : Ref} {w : World} (h : Keeps W w) (o : Obj) : Keeps W (w.alloc o) :=
  h.trans ⟨rfl, rfl, rfl, by simp, fun k hk => Below.heap_alloc w o k (h.lt hk)⟩

structure Sim (W : Ref) (g : Gm) (m : Mem) (w : World) : Prop where
  gbase : g.base = m.base
  mbase : m.base ≤ w.heap.size
  le : m.base ≤ m.next
  below : Keeps W w
  old : ∀ i, i < m.base → g.blk i = i ∧ ∀ ty fz cs, m.get i = .cells ty fz cs → W.S i ∧ ∃ c e f, W.w.heap[i]? = some (.cells c e f) ∧ cs.length ≤ c.size ∧ VRs g m.next cs (c.toList.take cs.length)
  own : ∀ i, m.base ≤ i → i < m.next → ¬ W.S (g.blk i) ∧ g.blk i < w.heap.size
  live : ∀ i ty fz cs, m.base ≤ i → i < m.next → m.get i = .cells ty fz cs → ∃ c lo hi, w.heap[g.blk i]? = some (.cells c ty (lo, hi)) ∧ c.size = g.sz i ∧ cs.length ≤ c.size ∧ (fz ≤ cs.length → hi ≤ fz) ∧ VRs g m.next cs (c.toList.take cs.length)
  raw : ∀ i o, m.base ≤ i → i < m.next → m.get i = .other o → w.heap[g.blk i]? = some o
  inj : ∀ i j, m.base ≤ i → i < m.next → m.base ≤ j → j < m.next → m.get i ≠ .dead → m.get j ≠ .dead → g.blk i = g.blk j → i = j

theorem Sim.cells {W : Ref} {g : Gm} {m : Mem} {w : World} (s : Sim W g m w) {i : Nat} (hi : i < m.next) {cs : List AV} (hc : m.cells? i = some cs) :
    ∃ c e f, w.heap[g.blk i]? = some (.cells c e f) ∧ cs.length ≤ c.size ∧ VRs g m.next cs (c.toList.take cs.length) := by
  unfold Mem.cells? at hc
  split at hc
  · rename_i ty fz cs' hg
    simp at hc; subst hc
    by_cases hb : i < m.base
    · obtain ⟨h1, h2⟩ := s.old i hb
      obtain ⟨hS, c, e, f, h3, h4, h5⟩ := h2 _ _ _ hg
      refine ⟨c, e, f, ?_, h4, h5⟩
      rw [h1, s.below.block i hS]; exact h3
    · obtain ⟨c, lo, hi', h1, h2, h3, h4, h5⟩ := s.live i _ _ _ (by omega) hi hg
      exact ⟨c, ty, (lo, hi'), h1, h3, h5⟩
  · simp at hc

theorem cell_of {w : World} {b o : Nat} {c : Array Value} {e : TypeId} {f : Nat × Nat} (h : w.heap[b]? = some (.cells c e f)) : w.cell? ⟨b, o, none⟩ = c[o]? := by
  simp [World.cell?, h]

theorem Sim.cell {W : Ref} {g : Gm} {m : Mem} {w : World} (s : Sim W g m w) {i o : Nat} (hi : i < m.next) {cs : List AV} (hc : m.cells? i = some cs) {v : AV} (hv : cs[o]? = some v) :
    ∃ x, w.cell? ⟨g.blk i, o, none⟩ = some x ∧ VR g m.next v x := by
  obtain ⟨c, e, f, h1, h2, h3⟩ := s.cells hi hc
  obtain ⟨x, hx, r⟩ := h3.get o hv
  rw [List.getElem?_take] at hx
  split at hx
  · exact ⟨x, by rw [cell_of h1]; simpa using hx, r⟩
  · cases hx

theorem addr_add (b o j : Nat) : (⟨b, o, none⟩ : Addr).add j = ⟨b, o + j, none⟩ := by unfold Addr.add; split <;> simp_all

theorem Sim.range {W : Ref} {g : Gm} {m : Mem} {w : World} (s : Sim W g m w) {i o k : Nat} (hi : i < m.next) {cs : List AV} (hc : m.cells? i = some cs) (hk : o + k ≤ cs.length) :
    ∃ xs : List Value, xs.length = k ∧ (∀ j v, xs[j]? = some v → w.cell? ((⟨g.blk i, o, none⟩ : Addr).add j) = some v) ∧ VRs g m.next ((cs.drop o).take k) xs := by
  obtain ⟨c, e, f, h1, h2, h3⟩ := s.cells hi hc
  refine ⟨(c.toList.drop o).take k, by simp; omega, ?_, ?_⟩
  · intro j v hv
    rw [addr_add, cell_of h1]
    rw [List.getElem?_take] at hv
    split at hv
    · simpa [List.getElem?_drop] using hv
    · cases hv
  · have := (h3.drop o).take k
    rw [List.drop_take, List.take_take] at this
    rwa [Nat.min_eq_left (by omega)] at this

end Go.Proofs.YtooogfnmhfocjaaDoor.Spl

/- The abstract machine, 4: memory is changed alike on both sides. -/
namespace Go.Proofs.YtooogfnmhfocjaaDoor.Spl
open Go Go.RowKit Go.MapKept
set_option linter.unusedVariables false
set_option linter.unusedSimpArgs false

@[simp] theorem Mem.get_set_same (m : Mem) (i : Nat) (o : AObj) : (m.set i o).get i = o := by simp [Mem.set]
theorem Mem.get_set_ne (m : Mem) {i j : Nat} (o : AObj) (h : j ≠ i) : (m.set i o).get j = m.get j := by simp [Mem.set, h]
@[simp] theorem Mem.get_alloc_same (m : Mem) (o : AObj) : (m.alloc o).get m.next = o := by simp [Mem.alloc]
theorem Mem.get_alloc_ne (m : Mem) {j : Nat} (o : AObj) (h : j ≠ m.next) : (m.alloc o).get j = m.get j := by simp [Mem.alloc, h]
@[simp] theorem Mem.next_set (m : Mem) (i : Nat) (o : AObj) : (m.set i o).next = m.next := rfl
@[simp] theorem Mem.base_set (m : Mem) (i : Nat) (o : AObj) : (m.set i o).base = m.base := rfl
@[simp] theorem Mem.next_alloc (m : Mem) (o : AObj) : (m.alloc o).next = m.next + 1 := rfl
@[simp] theorem Mem.base_alloc (m : Mem) (o : AObj) : (m.alloc o).base = m.base := rfl

theorem Mem.set_set (m : Mem) (i : Nat) (a b : AObj) : (m.set i a).set i b = m.set i b := by
  simp only [Mem.set]
  congr 1
  funext j
  split <;> rfl

def Gm.put (g : Gm) (n b s : Nat) : Gm := { base := g.base, blk := fun j => if j = n then b else g.blk j, sz := fun j => if j = n then s else g.sz j }
theorem Gm.put_ext (g : Gm) (n b s : Nat) : Ext' g n (g.put n b s) (n + 1) :=
  ⟨rfl, by omega, fun i hi => by simp [Gm.put, Nat.ne_of_lt hi], fun i hi => by simp [Gm.put, Nat.ne_of_lt hi]⟩

theorem wold (w : World) (o : Obj) (b : Nat) (h : b < w.heap.size) : (w.alloc o).heap[b]? = w.heap[b]? := Below.heap_alloc w o b h
theorem wnew (w : World) (o : Obj) : (w.alloc o).heap[w.heap.size]? = some o := by
  show (w.heap.push o)[w.heap.size]? = _
  simp

variable {W : Ref} {g : Gm} {m : Mem} {w w' : World}

/-- What is no block turns nothing. -/
theorem Sim.heap (s : Sim W g m w) (hb : Keeps W w') (hsz : w.heap.size ≤ w'.heap.size) (hh : ∀ b, b < w.heap.size → w'.heap[b]? = w.heap[b]?) : Sim W g m w' where
  gbase := s.gbase
  mbase := Nat.le_trans s.mbase hsz
  le := s.le
  below := hb
  old := s.old
  own := fun i h1 h2 => ⟨(s.own i h1 h2).1, Nat.lt_of_lt_of_le (s.own i h1 h2).2 hsz⟩
  live := fun i ty fz cs h1 h2 h3 => by
    obtain ⟨c, lo, hi, h4, r⟩ := s.live i ty fz cs h1 h2 h3
    exact ⟨c, lo, hi, by rw [hh _ (s.own i h1 h2).2]; exact h4, r⟩
  raw := fun i o h1 h2 h3 => by rw [hh _ (s.own i h1 h2).2]; exact s.raw i o h1 h2 h3
  inj := s.inj

theorem Sim.drew (s : Sim W g m w) : Sim W g m w.drew := s.heap s.below.drew (Nat.le_refl _) (fun _ _ => rfl)
/-- A block of which the abstract memory knows nothing. -/
theorem Sim.allocOther (s : Sim W g m w) (o : Obj) : Sim W g m (w.alloc o) :=
  s.heap (s.below.alloc o) (by simp) (fun b hb => wold w o b hb)

/-- An object of the call's own is changed. -/
theorem Sim.update (s : Sim W g m w) {i : Nat} (h1 : m.base ≤ i) (h2 : i < m.next) (hl : m.get i ≠ .dead)
    {c : Array Value} {ty fz lo hi : Nat} {cs : List AV} (hb : Keeps W w') (hsz : w'.heap.size = w.heap.size) (hother : ∀ b, b ≠ g.blk i → w'.heap[b]? = w.heap[b]?)
    (hnew : w'.heap[g.blk i]? = some (.cells c ty (lo, hi))) (hc : c.size = g.sz i) (hlen : cs.length ≤ c.size) (hfz : fz ≤ cs.length → hi ≤ fz) (hv : VRs g m.next cs (c.toList.take cs.length)) :
    Sim W g (m.set i (.cells ty fz cs)) w' where
  gbase := s.gbase
  mbase := by rw [hsz]; exact s.mbase
  le := s.le
  below := hb
  old := fun j hj => by
    have hj' : j < m.base := hj
    rw [Mem.get_set_ne m _ (by omega)]; exact s.old j hj'
  own := fun j h3 h4 => ⟨(s.own j h3 h4).1, by rw [hsz]; exact (s.own j h3 h4).2⟩
  live := fun j ty' fz' cs' h3 h4 h5 => by
    have h3' : m.base ≤ j := h3
    have h4' : j < m.next := h4
    by_cases hj : j = i
    · subst hj
      rw [Mem.get_set_same] at h5
      cases h5
      exact ⟨c, lo, hi, hnew, hc, hlen, hfz, hv⟩
    · rw [Mem.get_set_ne m _ hj] at h5
      obtain ⟨c', lo', hi', h6, r⟩ := s.live j _ _ _ h3' h4' h5
      refine ⟨c', lo', hi', ?_, r⟩
      rw [hother _ (fun e => hj (s.inj j i h3' h4' h1 h2 (by rw [h5]; simp) hl e))]; exact h6
  raw := fun j o' h3 h4 h5 => by
    have h3' : m.base ≤ j := h3
    have h4' : j < m.next := h4
    by_cases hj : j = i
    · subst hj; rw [Mem.get_set_same] at h5; cases h5
    · rw [Mem.get_set_ne m _ hj] at h5
      rw [hother _ (fun e => hj (s.inj j i h3' h4' h1 h2 (by rw [h5]; simp) hl e))]; exact s.raw j o' h3' h4' h5
  inj := fun j k a1 a2 a3 a4 a5 a6 a7 => by
    have hd : ∀ x, (m.set i (.cells ty fz cs)).get x ≠ .dead → m.get x ≠ .dead := fun x hx => by
      by_cases e : x = i
      · subst e; exact hl
      · rwa [Mem.get_set_ne m _ e] at hx
    exact s.inj j k a1 a2 a3 a4 (hd j a5) (hd k a6) a7

/-- A new object in a new block. -/
theorem Sim.alloc (s : Sim W g m w) (c : Array Value) (ty fz lo hi : Nat) (cs : List AV) (hlen : cs.length ≤ c.size) (hfz : fz ≤ cs.length → hi ≤ fz) (hv : VRs g m.next cs (c.toList.take cs.length)) :
    Sim W (g.put m.next w.heap.size c.size) (m.alloc (.cells ty fz cs)) (w.alloc (.cells c ty (lo, hi))) where
  gbase := s.gbase
  mbase := Nat.le_trans s.mbase (by simp)
  le := by simp only [Mem.base_alloc, Mem.next_alloc]; have := s.le; omega
  below := s.below.alloc _
  old := fun j hj => by
    have hj' : j < m.base := hj
    have hne : j ≠ m.next := by have := s.le; omega
    obtain ⟨h1, h2⟩ := s.old j hj'
    refine ⟨by simp [Gm.put, hne, h1], fun ty' fz' cs' h3 => ?_⟩
    rw [Mem.get_alloc_ne m _ hne] at h3
    obtain ⟨hS, c', e, f, h4, h5, h6⟩ := h2 _ _ _ h3
    exact ⟨hS, c', e, f, h4, h5, h6.mono (g.put_ext _ _ _)⟩
  own := fun j h1 h2 => by
    have h1' : m.base ≤ j := h1
    have h2' : j < m.next + 1 := h2
    by_cases hj : j = m.next
    · subst hj
      simp only [Gm.put, if_true, Mem.base_alloc, World.size_alloc]
      exact ⟨fun h => Nat.lt_irrefl _ (s.below.lt h), Nat.lt_succ_self _⟩
    · have := s.own j h1' (by omega)
      simp only [Gm.put, hj, if_false, Mem.base_alloc, World.size_alloc]
      exact ⟨this.1, Nat.lt_succ_of_lt this.2⟩
  live := fun j ty' fz' cs' h1 h2 h3 => by
    have h1' : m.base ≤ j := h1
    have h2' : j < m.next + 1 := h2
    by_cases hj : j = m.next
    · subst hj
      rw [Mem.get_alloc_same] at h3
      cases h3
      refine ⟨c, lo, hi, ?_, by simp [Gm.put], hlen, hfz, hv.mono (g.put_ext _ _ _)⟩
      simp only [Gm.put, if_true]
      exact wnew w _
    · rw [Mem.get_alloc_ne m _ hj] at h3
      obtain ⟨c', lo', hi', h4, h5, h6, h7, h8⟩ := s.live j _ _ _ h1' (by omega) h3
      refine ⟨c', lo', hi', ?_, by simp [Gm.put, hj, h5], h6, h7, h8.mono (g.put_ext _ _ _)⟩
      simp only [Gm.put, hj, if_false]
      rw [wold w _ _ (s.own j h1' (by omega)).2]; exact h4
  raw := fun j o' h1 h2 h3 => by
    have h1' : m.base ≤ j := h1
    have h2' : j < m.next + 1 := h2
    by_cases hj : j = m.next
    · subst hj; rw [Mem.get_alloc_same] at h3; cases h3
    · rw [Mem.get_alloc_ne m _ hj] at h3
      simp only [Gm.put, hj, if_false]
      rw [wold w _ _ (s.own j h1' (by omega)).2]; exact s.raw j o' h1' (by omega) h3
  inj := fun j k a1 a2 a3 a4 a5 a6 a7 => by
    have b1 : m.base ≤ j := a1
    have b2 : j < m.next + 1 := a2
    have b3 : m.base ≤ k := a3
    have b4 : k < m.next + 1 := a4
    by_cases hj : j = m.next <;> by_cases hk : k = m.next
    · omega
    · subst hj
      simp only [Gm.put, if_true, hk, if_false] at a7
      have := (s.own k b3 (by omega)).2
      omega
    · subst hk
      simp only [Gm.put, if_true, hj, if_false] at a7
      have := (s.own j b1 (by omega)).2
      omega
    · simp only [Gm.put, hj, hk, if_false] at a7
      rw [Mem.get_alloc_ne m _ hj] at a5
      rw [Mem.get_alloc_ne m _ hk] at a6
      exact s.inj j k b1 (by omega) b3 (by omega) a5 a6 a7

/-- A new object that is no row of cells. -/
theorem Sim.allocRaw (s : Sim W g m w) (o : Obj) : Sim W (g.put m.next w.heap.size 0) (m.alloc (.other o)) (w.alloc o) where
  gbase := s.gbase
  mbase := Nat.le_trans s.mbase (by simp)
  le := by simp only [Mem.base_alloc, Mem.next_alloc]; have := s.le; omega
  below := s.below.alloc _
  old := fun j hj => by
    have hj' : j < m.base := hj
    have hne : j ≠ m.next := by have := s.le; omega
    obtain ⟨h1, h2⟩ := s.old j hj'
    refine ⟨by simp [Gm.put, hne, h1], fun ty' fz' cs' h3 => ?_⟩
    rw [Mem.get_alloc_ne m _ hne] at h3
    obtain ⟨hS, c', e, f, h4, h5, h6⟩ := h2 _ _ _ h3
    exact ⟨hS, c', e, f, h4, h5, h6.mono (g.put_ext _ _ _)⟩
  own := fun j h1 h2 => by
    have h1' : m.base ≤ j := h1
    have h2' : j < m.next + 1 := h2
    by_cases hj : j = m.next
    · subst hj
      simp only [Gm.put, if_true, Mem.base_alloc, World.size_alloc]
      exact ⟨fun h => Nat.lt_irrefl _ (s.below.lt h), Nat.lt_succ_self _⟩
    · have := s.own j h1' (by omega)
      simp only [Gm.put, hj, if_false, Mem.base_alloc, World.size_alloc]
      exact ⟨this.1, Nat.lt_succ_of_lt this.2⟩
  live := fun j ty' fz' cs' h1 h2 h3 => by
    have h1' : m.base ≤ j := h1
    have h2' : j < m.next + 1 := h2
    by_cases hj : j = m.next
    · subst hj; rw [Mem.get_alloc_same] at h3; cases h3
    · rw [Mem.get_alloc_ne m _ hj] at h3
      obtain ⟨c', lo', hi', h4, h5, h6, h7, h8⟩ := s.live j _ _ _ h1' (by omega) h3
      refine ⟨c', lo', hi', ?_, by simp [Gm.put, hj, h5], h6, h7, h8.mono (g.put_ext _ _ _)⟩
      simp only [Gm.put, hj, if_false]
      rw [wold w _ _ (s.own j h1' (by omega)).2]; exact h4
  raw := fun j o' h1 h2 h3 => by
    have h1' : m.base ≤ j := h1
    have h2' : j < m.next + 1 := h2
    by_cases hj : j = m.next
    · subst hj
      rw [Mem.get_alloc_same] at h3
      cases h3
      simp only [Gm.put, if_true]
      exact wnew w _
    · rw [Mem.get_alloc_ne m _ hj] at h3
      simp only [Gm.put, hj, if_false]
      rw [wold w _ _ (s.own j h1' (by omega)).2]; exact s.raw j o' h1' (by omega) h3
  inj := fun j k a1 a2 a3 a4 a5 a6 a7 => by
    have b1 : m.base ≤ j := a1
    have b2 : j < m.next + 1 := a2
    have b3 : m.base ≤ k := a3
    have b4 : k < m.next + 1 := a4
    by_cases hj : j = m.next <;> by_cases hk : k = m.next
    · omega
    · subst hj
      simp only [Gm.put, if_true, hk, if_false] at a7
      have := (s.own k b3 (by omega)).2
      omega
    · subst hk
      simp only [Gm.put, if_true, hj, if_false] at a7
      have := (s.own j b1 (by omega)).2
      omega
    · simp only [Gm.put, hj, hk, if_false] at a7
      rw [Mem.get_alloc_ne m _ hj] at a5
      rw [Mem.get_alloc_ne m _ hk] at a6
      exact s.inj j k b1 (by omega) b3 (by omega) a5 a6 a7
/-- .. is changed. -/
theorem Sim.setRaw (s : Sim W g m w) {i : Nat} {o : Obj} (o' : Obj) (h1 : m.base ≤ i) (h2 : i < m.next) (hl : m.get i = .other o) : Sim W g (m.set i (.other o')) { w with heap := w.heap.setIfInBounds (g.blk i) o' } where
  gbase := s.gbase
  mbase := by show m.base ≤ (w.heap.setIfInBounds _ _).size; simp; exact s.mbase
  le := s.le
  below := s.below.trans ⟨rfl, rfl, rfl, by simp, fun k hk => by
    have hne : k ≠ g.blk i := fun e => (s.own i h1 h2).1 (by rw [← e]; exact hk)
    exact (heap_set (s.raw i o h1 h2 hl)).2 k hne⟩
  old := fun j hj => by
    have hj' : j < m.base := hj
    rw [Mem.get_set_ne m _ (by omega)]; exact s.old j hj'
  own := fun j h3 h4 => ⟨(s.own j h3 h4).1, by show _ < (w.heap.setIfInBounds _ _).size; simp; exact (s.own j h3 h4).2⟩
  live := fun j ty' fz' cs' h3 h4 h5 => by
    have h3' : m.base ≤ j := h3
    have h4' : j < m.next := h4
    by_cases hj : j = i
    · subst hj; rw [Mem.get_set_same] at h5; cases h5
    · rw [Mem.get_set_ne m _ hj] at h5
      obtain ⟨c', lo', hi', h6, r⟩ := s.live j _ _ _ h3' h4' h5
      refine ⟨c', lo', hi', ?_, r⟩
      have hne : g.blk j ≠ g.blk i := fun e => hj (s.inj j i h3' h4' h1 h2 (by rw [h5]; simp) (by rw [hl]; simp) e)
      exact ((heap_set (s.raw i o h1 h2 hl)).2 _ hne).trans h6
  raw := fun j o'' h3 h4 h5 => by
    have h3' : m.base ≤ j := h3
    have h4' : j < m.next := h4
    by_cases hj : j = i
    · subst hj
      rw [Mem.get_set_same] at h5
      cases h5
      exact (heap_set (s.raw j o h1 h2 hl)).1
    · rw [Mem.get_set_ne m _ hj] at h5
      have hne : g.blk j ≠ g.blk i := fun e => hj (s.inj j i h3' h4' h1 h2 (by rw [h5]; simp) (by rw [hl]; simp) e)
      exact ((heap_set (s.raw i o h1 h2 hl)).2 _ hne).trans (s.raw j o'' h3' h4' h5)
  inj := fun j k a1 a2 a3 a4 a5 a6 a7 => by
    have hd : ∀ x, (m.set i (.other o')).get x ≠ .dead → m.get x ≠ .dead := fun x hx => by
      by_cases e : x = i
      · subst e; rw [hl]; simp
      · rwa [Mem.get_set_ne m _ e] at hx
    exact s.inj j k a1 a2 a3 a4 (hd j a5) (hd k a6) a7

/-- An object is forgotten. -/
theorem Sim.kill (s : Sim W g m w) {i : Nat} (h1 : m.base ≤ i) : Sim W g (m.set i .dead) w where
  gbase := s.gbase
  mbase := s.mbase
  le := s.le
  below := s.below
  old := fun j hj => by
    have hj' : j < m.base := hj
    rw [Mem.get_set_ne m _ (by omega)]; exact s.old j hj'
  own := s.own
  live := fun j ty' fz' cs' h3 h4 h5 => by
    by_cases hj : j = i
    · subst hj; rw [Mem.get_set_same] at h5; cases h5
    · rw [Mem.get_set_ne m _ hj] at h5; exact s.live j _ _ _ h3 h4 h5
  raw := fun j o' h3 h4 h5 => by
    by_cases hj : j = i
    · subst hj; rw [Mem.get_set_same] at h5; cases h5
    · rw [Mem.get_set_ne m _ hj] at h5; exact s.raw j o' h3 h4 h5
  inj := fun j k a1 a2 a3 a4 a5 a6 a7 => by
    have hd : ∀ x, (m.set i .dead).get x ≠ .dead → m.get x ≠ .dead := fun x hx => by
      by_cases e : x = i
      · subst e; rw [Mem.get_set_same] at hx; exact absurd rfl hx
      · rwa [Mem.get_set_ne m _ e] at hx
    exact s.inj j k a1 a2 a3 a4 (hd j a5) (hd k a6) a7

/-- A forgotten object's block is taken by a new object. -/
theorem Sim.reuse (s : Sim W g m w) {i : Nat} (h1 : m.base ≤ i) (h2 : i < m.next) {ty fz : Nat} {cs : List AV} (hl : m.get i = .cells ty fz cs) :
    Sim W (g.put m.next (g.blk i) (g.sz i)) ((m.set i .dead).alloc (.cells ty fz cs)) w where
  gbase := s.gbase
  mbase := s.mbase
  le := by simp only [Mem.base_alloc, Mem.next_alloc, Mem.base_set, Mem.next_set]; have := s.le; omega
  below := s.below
  old := fun j hj => by
    have hj' : j < m.base := hj
    have hne : j ≠ m.next := by have := s.le; omega
    obtain ⟨h3, h4⟩ := s.old j hj'
    refine ⟨by simp [Gm.put, hne, h3], fun ty' fz' cs' h5 => ?_⟩
    rw [Mem.get_alloc_ne (m.set i .dead) _ (show j ≠ (m.set i .dead).next from hne), Mem.get_set_ne m _ (by omega)] at h5
    obtain ⟨hS, c', e, f, h6, h7, h8⟩ := h4 _ _ _ h5
    exact ⟨hS, c', e, f, h6, h7, h8.mono (g.put_ext _ _ _)⟩
  own := fun j h3 h4 => by
    have h3' : m.base ≤ j := h3
    have h4' : j < m.next + 1 := h4
    by_cases hj : j = m.next
    · subst hj; simp only [Gm.put, if_true, Mem.base_alloc, Mem.base_set]; exact s.own i h1 h2
    · simp only [Gm.put, hj, if_false, Mem.base_alloc, Mem.base_set]; exact s.own j h3' (by omega)
  live := fun j ty' fz' cs' h3 h4 h5 => by
    have h3' : m.base ≤ j := h3
    have h4' : j < m.next + 1 := h4
    by_cases hj : j = m.next
    · subst hj
      have : ((m.set i .dead).alloc (.cells ty fz cs)).get m.next = .cells ty fz cs := Mem.get_alloc_same (m.set i .dead) _
      rw [this] at h5
      cases h5
      obtain ⟨c', lo', hi', h6, h7, h8, h9, h10⟩ := s.live i _ _ _ h1 h2 hl
      exact ⟨c', lo', hi', by simpa [Gm.put] using h6, by simpa [Gm.put] using h7, h8, h9, h10.mono (g.put_ext _ _ _)⟩
    · rw [Mem.get_alloc_ne (m.set i .dead) _ (show j ≠ (m.set i .dead).next from hj)] at h5
      by_cases hji : j = i
      · subst hji; rw [Mem.get_set_same] at h5; cases h5
      · rw [Mem.get_set_ne m _ hji] at h5
        obtain ⟨c', lo', hi', h6, h7, h8, h9, h10⟩ := s.live j _ _ _ h3' (by omega) h5
        exact ⟨c', lo', hi', by simpa [Gm.put, hj] using h6, by simpa [Gm.put, hj] using h7, h8, h9, h10.mono (g.put_ext _ _ _)⟩
  raw := fun j o' h3 h4 h5 => by
    have h3' : m.base ≤ j := h3
    have h4' : j < m.next + 1 := h4
    by_cases hj : j = m.next
    · subst hj
      have : ((m.set i .dead).alloc (.cells ty fz cs)).get m.next = .cells ty fz cs := Mem.get_alloc_same (m.set i .dead) _
      rw [this] at h5
      cases h5
    · rw [Mem.get_alloc_ne (m.set i .dead) _ (show j ≠ (m.set i .dead).next from hj)] at h5
      by_cases hji : j = i
      · subst hji; rw [Mem.get_set_same] at h5; cases h5
      · rw [Mem.get_set_ne m _ hji] at h5
        simp only [Gm.put, hj, if_false]
        exact s.raw j o' h3' (by omega) h5
  inj := fun j k a1 a2 a3 a4 a5 a6 a7 => by
    have b1 : m.base ≤ j := a1
    have b2 : j < m.next + 1 := a2
    have b3 : m.base ≤ k := a3
    have b4 : k < m.next + 1 := a4
    have hi' : m.get i ≠ .dead := by rw [hl]; simp
    have key : ∀ x, m.base ≤ x → x < m.next + 1 → x ≠ m.next → ((m.set i .dead).alloc (.cells ty fz cs)).get x ≠ .dead → x ≠ i ∧ m.get x ≠ .dead := fun x x1 x2 x3 x4 => by
      rw [Mem.get_alloc_ne (m.set i .dead) _ (show x ≠ (m.set i .dead).next from x3)] at x4
      by_cases e : x = i
      · subst e; rw [Mem.get_set_same] at x4; exact absurd rfl x4
      · rw [Mem.get_set_ne m _ e] at x4; exact ⟨e, x4⟩
    by_cases hj : j = m.next <;> by_cases hk : k = m.next
    · omega
    · obtain ⟨k1, k2⟩ := key k b3 b4 hk a6
      subst hj
      simp only [Gm.put, if_true, hk, if_false] at a7
      exact absurd (s.inj i k h1 h2 b3 (by omega) hi' k2 a7).symm k1
    · obtain ⟨k1, k2⟩ := key j b1 b2 hj a5
      subst hk
      simp only [Gm.put, if_true, hj, if_false] at a7
      exact absurd (s.inj j i b1 (by omega) h1 h2 k2 hi' a7) k1
    · obtain ⟨_, k2⟩ := key j b1 b2 hj a5
      obtain ⟨_, k4⟩ := key k b3 b4 hk a6
      simp only [Gm.put, hj, hk, if_false] at a7
      exact s.inj j k b1 (by omega) b3 (by omega) k2 k4 a7

/-! splice -/
theorem splice_length : ∀ (vs cs : List AV) (o : Nat), (splice cs o vs).length = cs.length
  | [], _, _ => rfl
  | v :: vs, cs, o => by simp [splice, splice_length vs]
theorem splice_eq : ∀ (vs cs : List AV) (o : Nat), o + vs.length ≤ cs.length → splice cs o vs = cs.take o ++ vs ++ cs.drop (o + vs.length)
  | [], cs, o, _ => by simp [splice]
  | v :: vs, cs, o, h => by
    simp only [List.length_cons] at h
    rw [splice, splice_eq vs (cs.set o v) (o + 1) (by simp; omega)]
    have e1 : (cs.set o v).take (o + 1) = cs.take o ++ [v] := by
      apply List.ext_getElem?
      intro j
      simp only [List.getElem?_take, List.getElem?_set, List.getElem?_append, List.length_take]
      by_cases h1 : j < o
      · have : ¬ o = j := by omega
        simp [h1, this, show j < o + 1 by omega, show j < min o cs.length by omega]
      · by_cases h2 : j = o
        · subst h2; simp [show j < cs.length by omega, show ¬ j < min j cs.length by omega, Nat.min_eq_left (show j ≤ cs.length by omega)]
        · simp [h1, show ¬ j < o + 1 by omega, show ¬ j < min o cs.length by omega]
          omega
    have e2 : (cs.set o v).drop (o + 1 + vs.length) = cs.drop (o + (vs.length + 1)) := by
      apply List.ext_getElem?
      intro j
      simp only [List.getElem?_drop, List.getElem?_set]
      simp [show ¬ o = o + 1 + vs.length + j by omega]
      congr 1; omega
    rw [e1, e2]; simp

/-- Cells are stored into an object of the call's own. -/
theorem Sim.store (s : Sim W g m w) (P : Program) {i o : Nat} (h1 : m.base ≤ i) (h2 : i < m.next) {ty fz : Nat} {cs vs : List AV} (hl : m.get i = .cells ty fz cs) (hfz : fz ≤ o) (hle : o + vs.length ≤ cs.length)
    (hone : vs.all AV.one = true) {xs : List Value} (hv : VRs g m.next vs xs) :
    ∃ w', (storeCells ⟨g.blk i, o, none⟩ xs).run P w = .ok () w' ∧ Sim W g (m.set i (.cells ty fz (splice cs o vs))) w' := by
  obtain ⟨c, lo, hi, hh, hsz, hlen, hf, hr⟩ := s.live i _ _ _ h1 h2 hl
  have hlx := hv.length
  have h1c : ∀ x ∈ xs, x.oneCell' = true := by
    intro x hx
    obtain ⟨j, hj, rfl⟩ := List.getElem_of_mem hx
    obtain ⟨y, hy, r⟩ := hv.get j (v := vs[j]'(by omega)) (by simp)
    rw [List.getElem?_eq_getElem hj] at hy; cases hy
    exact r.oneCell (List.all_eq_true.1 hone _ (List.getElem_mem _))
  have hrun := run_storeCells_atF P (g.blk i) o ty (lo, hi) xs 0 c w hh (by simp only [Nat.add_zero]; have := hf (by omega); omega) (by omega) h1c
  simp only [Nat.add_zero] at hrun
  refine ⟨_, hrun, ?_⟩
  have hown := s.own i h1 h2
  refine s.update h1 h2 (by rw [hl]; simp) (c := (c.toList.take o ++ xs ++ c.toList.drop (o + xs.length)).toArray) (lo := lo) (hi := hi) ?_ (by simp) (fun b hb => setRow_other w _ _ _ hb) (setRow_heap w _ _ _ _ _ hh) ?_ ?_ ?_ ?_
  · refine s.below.trans ⟨rfl, rfl, rfl, by simp, fun k hk => setRow_other w _ _ _ (fun e => hown.1 (by rw [← e]; exact hk))⟩
  · rw [← hsz]; simp; omega
  · rw [splice_length]; simp; omega
  · rw [splice_length]; exact hf
  · rw [splice_length, splice_eq _ _ _ hle]
    have e : ((c.toList.take o ++ xs ++ c.toList.drop (o + xs.length)).toArray.toList.take cs.length) =
        (c.toList.take cs.length).take o ++ xs ++ (c.toList.take cs.length).drop (o + vs.length) := by
      simp only [List.take_append, List.take_take, List.length_take, List.length_append, Array.length_toList]
      rw [List.drop_take, List.take_of_length_le (l := xs) (by omega)]
      congr 2
      all_goals first | (rw [Nat.min_comm]; done) | (rw [hlx]; done) | omega | (congr 1; omega) | (rw [hlx]; omega) | (congr 1 <;> first | omega | (rw [hlx]))
    rw [e]
    exact ((hr.take o).append hv).append (hr.drop _)

/-- A variable that lies there already, and of which the abstract memory did not know, is adopted. -/
theorem Sim.adopt (s : Sim W g m w) {b : Nat} {c : Array Value} {ty : Nat} {cs : List AV} (hb : w.heap[b]? = some (.cells c ty (0, 0))) (hS : ¬ W.S b) (ho : ∀ j, j < m.next → g.blk j ≠ b) (hlen : cs.length = c.size) (hv : VRs g m.next cs c.toList) :
    Sim W (g.put m.next b c.size) (m.alloc (.cells ty 0 cs)) w where
  gbase := s.gbase
  mbase := s.mbase
  le := by simp only [Mem.base_alloc, Mem.next_alloc]; have := s.le; omega
  below := s.below
  old := fun j hj => by
    have hj' : j < m.base := hj
    have hne : j ≠ m.next := by have := s.le; omega
    obtain ⟨h1, h2⟩ := s.old j hj'
    refine ⟨by simp [Gm.put, hne, h1], fun ty' fz' cs' h3 => ?_⟩
    rw [Mem.get_alloc_ne m _ hne] at h3
    obtain ⟨hS, c', e, f, h4, h5, h6⟩ := h2 _ _ _ h3
    exact ⟨hS, c', e, f, h4, h5, h6.mono (g.put_ext _ _ _)⟩
  own := fun j h1 h2 => by
    have h1' : m.base ≤ j := h1
    have h2' : j < m.next + 1 := h2
    by_cases hj : j = m.next
    · subst hj
      simp only [Gm.put, if_true]
      refine ⟨hS, ?_⟩
      rcases Nat.lt_or_ge b w.heap.size with h | h
      · exact h
      · rw [Array.getElem?_eq_none h] at hb; cases hb
    · have := s.own j h1' (by omega)
      simp only [Gm.put, hj, if_false]
      exact this
  live := fun j ty' fz' cs' h1 h2 h3 => by
    have h1' : m.base ≤ j := h1
    have h2' : j < m.next + 1 := h2
    by_cases hj : j = m.next
    · subst hj
      rw [Mem.get_alloc_same] at h3
      cases h3
      refine ⟨c, 0, 0, by simpa [Gm.put] using hb, by simp [Gm.put], by omega, fun _ => Nat.le_refl _, ?_⟩
      rw [List.take_of_length_le (by simp; omega)]
      exact hv.mono (g.put_ext _ _ _)
    · rw [Mem.get_alloc_ne m _ hj] at h3
      obtain ⟨c', lo', hi', h4, h5, h6, h7, h8⟩ := s.live j _ _ _ h1' (by omega) h3
      exact ⟨c', lo', hi', by simpa [Gm.put, hj] using h4, by simp [Gm.put, hj, h5], h6, h7, h8.mono (g.put_ext _ _ _)⟩
  raw := fun j o' h1 h2 h3 => by
    have h1' : m.base ≤ j := h1
    have h2' : j < m.next + 1 := h2
    by_cases hj : j = m.next
    · subst hj; rw [Mem.get_alloc_same] at h3; cases h3
    · rw [Mem.get_alloc_ne m _ hj] at h3
      simp only [Gm.put, hj, if_false]
      exact s.raw j o' h1' (by omega) h3
  inj := fun j k a1 a2 a3 a4 a5 a6 a7 => by
    have b1 : m.base ≤ j := a1
    have b2 : j < m.next + 1 := a2
    have b3 : m.base ≤ k := a3
    have b4 : k < m.next + 1 := a4
    by_cases hj : j = m.next <;> by_cases hk : k = m.next
    · omega
    · subst hj
      simp only [Gm.put, if_true, hk, if_false] at a7
      exact absurd a7.symm (ho k (by omega))
    · subst hk
      simp only [Gm.put, if_true, hj, if_false] at a7
      exact absurd a7 (ho j (by omega))
    · simp only [Gm.put, hj, hk, if_false] at a7
      rw [Mem.get_alloc_ne m _ hj] at a5
      rw [Mem.get_alloc_ne m _ hk] at a6
      exact s.inj j k b1 (by omega) b3 (by omega) a5 a6 a7

/-- Some blocks more are kept. -/
def Ref.more (W : Ref) (w : World) (E : Nat → Prop) (h : Keeps W w) (hE : ∀ k, E k → k < w.heap.size) : Ref :=
  ⟨w, fun k => W.S k ∨ E k, fun k hk => hk.elim (fun h' => h.lt h') (hE k)⟩
theorem Sim.more (s : Sim W g m w) {E : Nat → Prop} (hE : ∀ k, E k → k < w.heap.size) (ho : ∀ i, i < m.next → ¬ E (g.blk i)) : Sim (W.more w E s.below hE) g m w where
  gbase := s.gbase
  mbase := s.mbase
  le := s.le
  below := ⟨rfl, rfl, rfl, Nat.le_refl _, fun _ _ => rfl⟩
  old := fun i hi => by
    obtain ⟨h1, h2⟩ := s.old i hi
    refine ⟨h1, fun ty fz cs hg => ?_⟩
    obtain ⟨hS, c, e, f, h4, h5⟩ := h2 _ _ _ hg
    exact ⟨.inl hS, c, e, f, by show w.heap[i]? = _; rw [s.below.block i hS]; exact h4, h5⟩
  own := fun i h1 h2 => ⟨fun h => h.elim (s.own i h1 h2).1 (ho i h2), (s.own i h1 h2).2⟩
  live := s.live
  raw := s.raw
  inj := s.inj
theorem Sim.less {g' : Gm} {m' : Mem} (hk : Keeps W w) {E : Nat → Prop} {hE : ∀ k, E k → k < w.heap.size} (s : Sim (W.more w E hk hE) g' m' w') (ho : ∀ i, i < m'.base → ¬ E i) : Sim W g' m' w' where
  gbase := s.gbase
  mbase := s.mbase
  le := s.le
  below := hk.trans ⟨s.below.os, s.below.tape, s.below.output, s.below.size, fun k h => s.below.block k (.inl h)⟩
  old := fun i hi => by
    obtain ⟨h1, h2⟩ := s.old i hi
    refine ⟨h1, fun ty fz cs hg => ?_⟩
    obtain ⟨hS, c, e, f, h4, h5⟩ := h2 _ _ _ hg
    have hS' : W.S i := hS.elim id (fun h => absurd h (ho i hi))
    exact ⟨hS', c, e, f, by rw [← hk.block i hS']; exact h4, h5⟩
  own := fun i h1 h2 => ⟨fun h => (s.own i h1 h2).1 (.inl h), (s.own i h1 h2).2⟩
  live := s.live
  raw := s.raw
  inj := s.inj

end Go.Proofs.YtooogfnmhfocjaaDoor.Spl

/- The abstract machine, 5: operations that neither read nor write memory. -/
namespace Go.Proofs.YtooogfnmhfocjaaDoor.Spl
open Go Go.RowKit
set_option linter.unusedVariables false
set_option linter.unusedSimpArgs false

variable {P : Program} {g : Gm} {n : Nat} (w : World)

theorem b2_sound {k : IntKind} {op : BinOp} {a b : Int} {v : AV} (ho : op ≠ .shl ∧ op ≠ .shr) (h : b2 k op a b = some v) (t : TypeId) :
    ∃ z, (binOp op t (.int k a) (.int k b)).run P w = .ok z w ∧ VR g n v z := by
  cases op <;> simp [b2] at h <;> (try (obtain ⟨h0, h⟩ := h)) <;> (try subst h) <;> (try exact absurd rfl ho.1) <;> (try exact absurd rfl ho.2) <;>
    exact ⟨_, by simp [binOp, Op.intArith, Op.intDiv, Op.intBits, Op.intCmp, *] <;> rfl, by constructor⟩

theorem sh2_sound {k k' : IntKind} {op : BinOp} {a b : Int} {v : AV} (h : sh2 k op a b = some v) (t : TypeId) (ho : op = .shl ∨ op = .shr) :
    ∃ z, (binOp op t (.int k a) (.int k' b)).run P w = .ok z w ∧ VR g n v z := by
  rcases ho with rfl | rfl <;> simp [sh2] at h <;> obtain ⟨h0, h⟩ := h <;> subst h <;>
    exact ⟨_, by simp [binOp, Op.shift, show ¬ b < 0 by omega] <;> rfl, by constructor⟩

theorem s2_sound {op : BinOp} {a b : ByteArray} {v : AV} (h : s2 op a b = some v) (t : TypeId) :
    ∃ z, (binOp op t (.string a) (.string b)).run P w = .ok z w ∧ VR g n v z := by
  cases op <;> simp [s2] at h <;> (try (obtain ⟨h0, h⟩ := h)) <;> (try subst h)
  case add =>
    refine ⟨.string (a ++ b), ?_, by constructor⟩
    have : ¬ (((a.size + b.size : Nat) : Int) > IntKind.i64.max) := by simpa using h0
    simp only [binOp, Op.stringOp]
    rw [if_neg this]; rfl
  all_goals exact ⟨_, by simp [binOp, Op.stringOp] <;> rfl, by first | constructor | (unfold strEq; constructor)⟩

theorem kindOf_1 {t : TypeId} (h : kindOf P t = 1) : P.underlying t = some .bool := by
  unfold kindOf at h; repeat' (split at h)
  all_goals first | assumption | (exact absurd h (by decide))
theorem kindOf_6 {t : TypeId} (h : kindOf P t = 6) : ∃ k, P.underlying t = some (.int k) := by
  unfold kindOf at h; repeat' (split at h)
  all_goals first | exact ⟨_, by assumption⟩ | (exact absurd h (by decide))
theorem kindOf_7 {t : TypeId} (h : kindOf P t = 7) : P.underlying t = some .string := by
  unfold kindOf at h; repeat' (split at h)
  all_goals first | assumption | (exact absurd h (by decide))
theorem kindOf_4 {t : TypeId} (h : kindOf P t = 4) : ∃ k, P.underlying t = some (.slice k) := by
  unfold kindOf at h; repeat' (split at h)
  all_goals first | exact ⟨_, by assumption⟩ | (exact absurd h (by decide))
theorem kindOf_5 {t : TypeId} (h : kindOf P t = 5) : ∃ a b c, P.underlying t = some (.func a b c) := by
  unfold kindOf at h; repeat' (split at h)
  all_goals first | exact ⟨_, _, _, by assumption⟩ | (exact absurd h (by decide))
theorem kindOf_3 {t : TypeId} (h : kindOf P t = 3) : ∃ e i, P.underlying t = some (.pointer e) ∧ P.info? e = some i ∧ i.size ≠ 0 := by
  unfold kindOf at h; repeat' (split at h)
  all_goals first | (exact absurd h (by decide)) | skip
  rename_i e hu hs
  unfold size? at hs
  cases hi : P.info? e with
  | none => simp [hi] at hs
  | some i => simp [hi] at hs; exact ⟨e, i, hu, hi, hs⟩

theorem addr_beq (b o p : Nat) : ((⟨b, o, none⟩ : Addr) == ⟨b, p, none⟩) = (o == p) := by
  by_cases e : o = p
  · subst e; simp
  · rw [beq_eq_false_iff_ne.2 e, beq_eq_false_iff_ne]
    intro h; exact e (by cases h; rfl)

theorem eqGuard_plain (op : BinOp) (t : TypeId) (a c : Operand) (xv yv : Value) (h : ∀ cs ds, ¬ (xv = .agg cs ∧ yv = .agg ds)) (h' : ¬ (xv = .nilIface ∧ yv = .nilIface)) :
    (eqGuard op t a c xv yv).run P w = .ok () w := by
  unfold eqGuard
  cases op <;> first
    | rfl
    | (simp only [Bool.not_true, Bool.false_eq_true, if_false]
       split
       · exact absurd ⟨rfl, rfl⟩ h'
       · exact absurd ⟨rfl, rfl⟩ (h _ _)
       · rfl)

theorem eqF_sound {t : TypeId} {x y : AV} {xv yv : Value} {b : Bool} (hx : VR g n x xv) (hy : VR g n y yv) (h : eqF (kindOf P t) x y = some b) (d : Nat) :
    (Op.equalIn (d + 1) t xv yv).run P w = .ok b w := by
  generalize hk : kindOf P t = k at h
  unfold eqF at h
  split at h
  · have hu := kindOf_1 hk
    cases hx; cases hy; cases h; simp [Op.equalIn, run_underlying hu]
  · obtain ⟨_, hu⟩ := kindOf_6 hk
    split at h
    · rename_i e; subst e; cases hx; cases hy; cases h; exact run_equalIn_int w d t _ _ _ _ hu
    · cases h
  · have hu := kindOf_7 hk
    cases hx; cases hy; cases h; exact run_equalIn_string w d t _ _ hu
  · obtain ⟨e, i, hu, _⟩ := kindOf_3 hk
    cases hx; cases hy; cases h; simp [Op.equalIn, run_underlying hu]
  · obtain ⟨e, i, hu, _⟩ := kindOf_3 hk
    cases hx; cases hy; cases h; simp [Op.equalIn, run_underlying hu]
  · obtain ⟨e, i, hu, _⟩ := kindOf_3 hk
    cases hx; cases hy; cases h; simp [Op.equalIn, run_underlying hu]
  · obtain ⟨e, i, hu, hi, hi0⟩ := kindOf_3 hk
    have hse : (Go.sizeOf e).run P w = .ok i.size w := by simp [Go.sizeOf, typeInfo, hi]
    split at h
    · rename_i e; subst e
      cases hx; cases hy; cases h
      simp only [Op.equalIn, Sem.run_bind, run_underlying hu, Result.andThen_ok, hse]
      rw [if_pos hi0]
      simp [sameAddr]
      exact addr_beq _ _ _
    · cases h
  · obtain ⟨_, hu⟩ := kindOf_4 hk
    cases hx; cases hy; cases h; simp [Op.equalIn, run_underlying hu]
  · obtain ⟨_, hu⟩ := kindOf_4 hk
    cases hx; cases hy; cases h; simp [Op.equalIn, run_underlying hu]
  · obtain ⟨_, hu⟩ := kindOf_4 hk
    cases hx; cases hy; cases h; simp [Op.equalIn, run_underlying hu]
  · obtain ⟨_, hu⟩ := kindOf_4 hk
    cases hx; cases hy; cases h; simp [Op.equalIn, run_underlying hu]
  · obtain ⟨_, hu⟩ := kindOf_4 hk
    cases hx; cases hy; cases h; simp [Op.equalIn, run_underlying hu]
  · obtain ⟨_, _, _, hu⟩ := kindOf_5 hk
    cases hx; cases hy; cases h; simp [Op.equalIn, run_underlying hu]
  · obtain ⟨_, _, _, hu⟩ := kindOf_5 hk
    cases hx; cases hy; cases h; simp [Op.equalIn, run_underlying hu]
  · obtain ⟨_, _, _, hu⟩ := kindOf_5 hk
    cases hx; cases hy; cases h; simp [Op.equalIn, run_underlying hu]
  · cases h

theorem run_size {t : TypeId} {n : Nat} (h : size? P t = some n) (w : World) : (Go.sizeOf t).run P w = .ok n w := by
  unfold size? at h
  cases hi : P.info? t with
  | none => simp [hi] at h
  | some i => simp [hi] at h; subst h; simp [Go.sizeOf, typeInfo, hi]

theorem shape_some {t : TypeId} {k : Nat} (h : shape? P t = some (some k)) : (∀ w, (isAgg t).run P w = .ok true w) ∧ size? P t = some k := by
  unfold shape? at h
  split at h
  · rename_i fs i hu hi
    simp at h; subst h
    exact ⟨fun w => by simp [isAgg, run_underlying hu], by simp [size?, hi]⟩
  · rename_i a b i hu hi
    simp at h; subst h
    exact ⟨fun w => by simp [isAgg, run_underlying hu], by simp [size?, hi]⟩
  · split at h <;> simp at h
  · simp at h
theorem shape_none {t : TypeId} (h : shape? P t = some none) : (∀ w, (isAgg t).run P w = .ok false w) ∧ size? P t = some 1 := by
  unfold shape? at h
  split at h
  · simp at h
  · simp at h
  · rename_i d i h1 h2 hu hi
    split at h
    · rename_i hs
      refine ⟨fun w => ?_, by simp [size?, hi, hs]⟩
      simp only [isAgg, Sem.run_bind, run_underlying hu, Result.andThen_ok]
      cases d <;> simp at h1 h2 ⊢
    · simp at h
  · simp at h

theorem part_sound {t : TypeId} {sh : Option Nat} (ht : shape? P t = some sh) {cs : List AV} {xs : List Value} (hv : VRs g n cs xs) {o : Nat} {v : AV} (h : aPart sh cs o = some v) :
    ∃ z, (part t xs.toArray o).run P w = .ok z w ∧ VR g n v z := by
  unfold aPart at h
  cases sh with
  | some k =>
    obtain ⟨h1, h2⟩ := shape_some ht
    simp at h
    obtain ⟨h3, rfl⟩ := h
    refine ⟨.agg ((xs.drop o).take k).toArray, ?_, .agg _ _ ((hv.drop o).take k)⟩
    simp only [part, Sem.run_bind, h1, Result.andThen_ok, run_size h2, if_true, Sem.run_pure]
    congr 2
    apply Array.ext'
    simp [List.take_drop]
  | none =>
    obtain ⟨h1, h2⟩ := shape_none ht
    simp at h
    obtain ⟨z, hz, r⟩ := hv.get o h
    refine ⟨z, ?_, r⟩
    simp [part, h1, hz]

theorem eqFields_sound (d : Nat) {cs ds : List AV} {xs ys : List Value} (hx : VRs g n cs xs) (hy : VRs g n ds ys) : ∀ (fs : List Field) (i : Nat) (b : Bool), fieldsPlain P i fs = true →
    eqCells (fs.map fun f => kindOf P f.type) (cs.drop i) (ds.drop i) = some b → (Op.eqFields (d + 1) xs.toArray ys.toArray fs).run P w = .ok b w
  | [], i, b, _, h => by
    simp only [List.map_nil] at h
    cases h1 : cs.drop i with
    | cons a as => rw [h1] at h; cases h2 : ds.drop i <;> rw [h2] at h <;> simp [eqCells] at h
    | nil =>
      cases h2 : ds.drop i with
      | cons a as => rw [h1, h2] at h; simp [eqCells] at h
      | nil => rw [h1, h2] at h; simp [eqCells] at h; subst h; simp [Op.eqFields]
  | f :: fs, i, b, hp, h => by
    simp only [fieldsPlain, Bool.and_eq_true, bne_iff_ne, ne_eq, beq_iff_eq] at hp
    obtain ⟨⟨⟨hn, ho⟩, hs⟩, hp⟩ := hp
    simp only [List.map_cons] at h
    cases h1 : cs.drop i with
    | nil => rw [h1] at h; simp [eqCells] at h
    | cons a as =>
      cases h2 : ds.drop i with
      | nil => rw [h1, h2] at h; simp [eqCells] at h
      | cons c es =>
        rw [h1, h2] at h
        have ea : cs[i]? = some a := by have := congrArg (fun l => l[0]?) h1; simpa using this
        have ec : ds[i]? = some c := by have := congrArg (fun l => l[0]?) h2; simpa using this
        have e1 : cs.drop (i + 1) = as := by rw [← List.drop_drop, h1]; rfl
        have e2 : ds.drop (i + 1) = es := by rw [← List.drop_drop, h2]; rfl
        obtain ⟨za, hza, ra⟩ := part_sound (P := P) w hs hx (o := i) (v := a) (by simpa [aPart] using ea)
        obtain ⟨zc, hzc, rc⟩ := part_sound (P := P) w hs hy (o := i) (v := c) (by simpa [aPart] using ec)
        simp only [eqCells] at h
        simp only [Op.eqFields]
        rw [if_pos hn]
        simp only [Sem.run_bind, ho, hza, hzc, Result.andThen_ok]
        cases he : eqF (kindOf P f.type) a c with
        | none => rw [he] at h; cases h
        | some q =>
          rw [he] at h
          rw [eqF_sound w ra rc he d]
          cases q with
          | false => simp at h; subst h; simp
          | true =>
            simp at h
            have ih := eqFields_sound d hx hy fs (i + 1) b hp (by rw [e1, e2]; exact h)
            simp [ih]

/-- Values of one kind that is no integer and no string are compared by their type. -/
theorem eqF_binOp {k : Nat} {x y : AV} {xv yv : Value} {b : Bool} (hx : VR g n x xv) (hy : VR g n y yv) (h : eqF k x y = some b) (h6 : k ≠ 6) (h7 : k ≠ 7) (t : TypeId) :
    (∀ op a c, (eqGuard op t a c xv yv).run P w = .ok () w) ∧ binOp .eql t xv yv = (do pure (.bool (← Op.equal t xv yv))) ∧ binOp .neq t xv yv = (do pure (.bool (!(← Op.equal t xv yv)))) := by
  unfold eqF at h
  split at h
  all_goals first
    | (exact absurd rfl h6)
    | (exact absurd rfl h7)
    | (cases h; done)
    | (cases hx; cases hy
       exact ⟨fun op a c => eqGuard_plain w op t a c _ _ (fun _ _ e => by cases e.1) (fun e => by cases e.1), rfl, rfl⟩)

theorem eqF_6 {x y : AV} {b : Bool} (h : eqF 6 x y = some b) : ∃ k u k' v, x = .int k u ∧ y = .int k' v := by
  unfold eqF at h
  split at h
  all_goals first | exact ⟨_, _, _, _, rfl, rfl⟩ | contradiction | (exfalso; simp at *; done) | (cases h; done)
theorem eqF_7 {x y : AV} {b : Bool} (h : eqF 7 x y = some b) : ∃ u v, x = .str u ∧ y = .str v := by
  unfold eqF at h
  split at h
  all_goals first | exact ⟨_, _, rfl, rfl⟩ | contradiction | (exfalso; simp at *; done) | (cases h; done)

theorem aEq_sound {t : TypeId} {x y : AV} {xv yv : Value} {b : Bool} (hx : VR g n x xv) (hy : VR g n y yv) (h : aEq (eqKind P t) x y = some b)
    (hi : ∀ k u k' v, ¬ (x = .int k u ∧ y = .int k' v)) (hs : ∀ u v, ¬ (x = .str u ∧ y = .str v)) :
    (∀ op a c, (eqGuard op t a c xv yv).run P w = .ok () w) ∧ (binOp .eql t xv yv).run P w = .ok (.bool b) w ∧ (binOp .neq t xv yv).run P w = .ok (.bool !b) w := by
  unfold eqKind at h
  split at h
  · rename_i fs hu
    split at h
    · rename_i hp
      simp only [Bool.and_eq_true, Bool.not_eq_true'] at hp
      obtain ⟨⟨h1, h2⟩, h3⟩ := hp
      generalize hks : (fs.toList.map fun f => kindOf P f.type) = ks at h
      have hag : ∃ cs ds, x = .agg cs ∧ y = .agg ds ∧ eqCells ks cs ds = some b := by
        unfold aEq at h
        split at h
        · rename_i heq; cases heq; exact ⟨_, _, rfl, rfl, h⟩
        · rename_i heq _; cases heq; simp [eqF] at h
        · cases h
      obtain ⟨cs, ds, rfl, rfl, hc⟩ := hag
      cases hx with
      | agg _ xs hx =>
        cases hy with
        | agg _ ys hy =>
          have hu' : P.underlying t = some (.struct (P.fieldsOf t)) := by rw [hu]; simp [Program.fieldsOf, hu]
          have hf : P.fieldsOf t = fs := by simp [Program.fieldsOf, hu]
          have := eqFields_sound (P := P) w 9998 hx hy fs.toList 0 b h3 (by rw [hks]; simpa using hc)
          rw [← hf] at this
          have he : (Op.equalIn 10000 t (.agg xs.toArray) (.agg ys.toArray)).run P w = .ok b w := by
            rw [run_equalIn_struct w 9999 t _ _ hu' h1]; exact this
          refine ⟨fun op a c => run_eqGuard_agg w op t a c _ _ h2, ?_, ?_⟩
          · rw [run_eql_struct, he]; rfl
          · rw [run_neq_struct, he]; rfl
    · unfold aEq at h
      split at h
      · rename_i heq; cases heq
      · rename_i heq _; cases heq
      · cases h
  · have h' : eqF (kindOf P t) x y = some b := by
      unfold aEq at h
      split at h
      · rename_i heq
        have h2 : kindOf P t = 2 := by injection heq
        exact absurd h2 (by unfold kindOf; repeat' split
                            all_goals decide)
      · rename_i heq _; cases heq; exact h
      · cases h
    have h6 : kindOf P t ≠ 6 := by
      intro e; rw [e] at h'; obtain ⟨_, _, _, _, e1, e2⟩ := eqF_6 h'; exact hi _ _ _ _ ⟨e1, e2⟩
    have h7 : kindOf P t ≠ 7 := by
      intro e; rw [e] at h'; obtain ⟨_, _, e1, e2⟩ := eqF_7 h'; exact hs _ _ ⟨e1, e2⟩
    obtain ⟨b1, b2, b3⟩ := eqF_binOp (P := P) w hx hy h' h6 h7 t
    have he : (Op.equal t xv yv).run P w = .ok b w := by unfold Op.equal Op.maxDepth; exact eqF_sound w hx hy h' 9999
    exact ⟨b1, by rw [b2]; simp [he], by rw [b3]; simp [he]⟩

theorem aBin_sound {op : BinOp} {t : TypeId} {x y : AV} {xv yv : Value} {v : AV} (hx : VR g n x xv) (hy : VR g n y yv)
    (h : aBin op (match op with | .eql | .neq => eqKind P t | _ => []) x y = some v) (a c : Operand) :
    ∃ z, (do eqGuard op t a c xv yv; binOp op t xv yv : Sem Value).run P w = .ok z w ∧ VR g n v z := by
  have gi : ∀ k u k' v, (eqGuard op t a c (.int k u) (.int k' v)).run P w = .ok () w := fun k u k' v => eqGuard_plain w op t a c _ _ (fun _ _ e => by cases e.1) (fun e => by cases e.1)
  have gs : ∀ u v, (eqGuard op t a c (.string u) (.string v)).run P w = .ok () w := fun u v => eqGuard_plain w op t a c _ _ (fun _ _ e => by cases e.1) (fun e => by cases e.1)
  unfold aBin at h
  split at h
  · cases hx; cases hy
    obtain ⟨z, hz, r⟩ := sh2_sound (P := P) (g := g) (n := n) w h t (.inl rfl)
    exact ⟨z, by simp only [Sem.run_bind, gi, Result.andThen_ok]; exact hz, r⟩
  · cases hx; cases hy
    obtain ⟨z, hz, r⟩ := sh2_sound (P := P) (g := g) (n := n) w h t (.inr rfl)
    exact ⟨z, by simp only [Sem.run_bind, gi, Result.andThen_ok]; exact hz, r⟩
  · rename_i h1 h2
    split at h
    · rename_i e; subst e
      cases hx; cases hy
      obtain ⟨z, hz, r⟩ := b2_sound (P := P) (g := g) (n := n) w ⟨h1, h2⟩ h t
      exact ⟨z, by simp only [Sem.run_bind, gi, Result.andThen_ok]; exact hz, r⟩
    · cases h
  · cases hx; cases hy
    obtain ⟨z, hz, r⟩ := s2_sound (P := P) (g := g) (n := n) w h t
    exact ⟨z, by simp only [Sem.run_bind, gs, Result.andThen_ok]; exact hz, r⟩
  · rename_i h1 h2
    obtain ⟨b, hb, rfl⟩ := Option.map_eq_some_iff.1 h
    obtain ⟨h5, h6, _⟩ := aEq_sound (P := P) w hx hy hb (fun _ _ _ _ e => h1 _ _ _ _ e.1 e.2) (fun _ _ e => h2 _ _ e.1 e.2)
    exact ⟨.bool b, by simp only [Sem.run_bind, h5, Result.andThen_ok]; exact h6, .bool _⟩
  · rename_i h1 h2
    obtain ⟨b, hb, rfl⟩ := Option.map_eq_some_iff.1 h
    obtain ⟨h5, _, h6⟩ := aEq_sound (P := P) w hx hy hb (fun _ _ _ _ e => h1 _ _ _ _ e.1 e.2) (fun _ _ e => h2 _ _ e.1 e.2)
    exact ⟨.bool !b, by simp only [Sem.run_bind, h5, Result.andThen_ok]; exact h6, .bool _⟩
  · cases h

theorem aUn_sound {op : UnOp} {x : AV} {xv : Value} {v : AV} (hx : VR g n x xv) (h : aUn op x = some v) : ∃ z, (Op.unary op xv).run P w = .ok z w ∧ VR g n v z := by
  unfold aUn at h
  split at h
  · cases hx; cases h; exact ⟨_, rfl, .int _ _⟩
  · cases hx; cases h; exact ⟨_, rfl, .int _ _⟩
  · cases hx; cases h; exact ⟨_, rfl, .bool _⟩
  · cases h

theorem aPick_sound {c x y : AV} {cv xv yv : Value} {v : AV} (hc : VR g n c cv) (hx : VR g n x xv) (hy : VR g n y yv) (h : aPick c x y = some v) :
    ∃ z, (do pure (Next.value (if ← asBool cv then xv else yv)) : Sem Next).run P w = .ok (.value z) w ∧ VR g n v z := by
  unfold aPick at h
  split at h
  · cases hc; cases h; exact ⟨xv, rfl, hx⟩
  · cases hc; cases h; exact ⟨yv, rfl, hy⟩
  · cases h

theorem aOff_sound {f : Field} {x : AV} {xv : Value} {v : AV} (hx : VR g n x xv) (h : aOff f.offset x = some v) (hs : (size? P f.type).getD 0 ≠ 0) :
    ∃ z, (do let a ← Instr.sureAddr xv; pure (.pointer (some (← fieldPlace a f))) : Sem Value).run P w = .ok z w ∧ VR g n v z := by
  unfold aOff at h
  split at h
  · cases hx with
    | ptr i o hi =>
      cases h
      refine ⟨_, ?_, .ptr _ _ hi⟩
      obtain ⟨k, hk, hk0⟩ : ∃ k, size? P f.type = some k ∧ k ≠ 0 := by
        cases hz : size? P f.type with
        | none => simp [hz] at hs
        | some k => exact ⟨k, rfl, by simpa [hz] using hs⟩
      simp only [Instr.sureAddr, fieldPlace, Sem.run_bind, Sem.run_pure, Result.andThen_ok, run_size hk]
      rw [if_neg hk0]
      simp [addr_add]
  · cases h

theorem aIdxS_sound {t e : TypeId} {size : Nat} {x ix : AV} {xv iv : Value} {v : AV} (ht : P.underlying t = some (.slice e)) (he : size? P e = some size) (hx : VR g n x xv) (hi : VR g n ix iv) (h : aIdxS size x ix = some v) :
    ∃ z, (Instr.indexAt t xv iv).run P w = .ok z w ∧ VR g n v z := by
  unfold aIdxS at h
  split at h
  · split at h
    · rename_i hb
      cases hx with
      | slice i o len es cap h1 h2 h3 =>
        cases hi; cases h
        refine ⟨_, ?_, .ptr _ _ h1⟩
        simp [Instr.indexAt, run_underlying ht, asIntOf, hb, run_size he, addr_add]
    · cases h
  · cases h

theorem aIdxA_sound {t e : TypeId} {len size : Nat} {x ix : AV} {xv iv : Value} {v : AV} (ht : P.underlying t = some (.array len e)) (he : size? P e = some size) (hx : VR g n x xv) (hi : VR g n ix iv) (h : aIdxA len size x ix = some v) :
    ∃ z, (Instr.indexAt t xv iv).run P w = .ok z w ∧ VR g n v z := by
  unfold aIdxA at h
  split at h
  · split at h
    · rename_i hb
      cases hx with
      | ptr i o h1 =>
        cases hi; cases h
        refine ⟨_, ?_, .ptr _ _ h1⟩
        simp [Instr.indexAt, run_underlying ht, asIntOf, Instr.sureAddr, hb, run_size he, addr_add]
    · cases h
  · cases h

theorem aIdxV_sound {t e : TypeId} {len size : Nat} {sh : Option Nat} {x ix : AV} {xv iv : Value} {v : AV} (ht : P.underlying t = some (.array len e)) (he : size? P e = some size) (hs : shape? P e = some sh)
    (hx : VR g n x xv) (hi : VR g n ix iv) (h : aIdxV len size sh x ix = some v) :
    ∃ z, (Instr.index t xv iv).run P w = .ok z w ∧ VR g n v z := by
  unfold aIdxV at h
  split at h
  · split at h
    · rename_i hb
      cases hx with
      | agg cs xs hx =>
        cases hi
        obtain ⟨z, hz, r⟩ := part_sound (P := P) w hs hx h
        refine ⟨z, ?_, r⟩
        simp [Instr.index, run_underlying ht, asIntOf, hb, run_size he, hz]
    · cases h
  · cases h

theorem aIdxStr_sound {t : TypeId} {x ix : AV} {xv iv : Value} {v : AV} (ht : P.underlying t = some .string) (hx : VR g n x xv) (hi : VR g n ix iv) (h : aIdxStr x ix = some v) :
    ∃ z, (Instr.index t xv iv).run P w = .ok z w ∧ VR g n v z := by
  unfold aIdxStr at h
  split at h
  · split at h
    · rename_i hb
      cases hx; cases hi
      obtain ⟨b, hb', rfl⟩ := Option.map_eq_some_iff.1 h
      exact ⟨_, by simp [Instr.index, run_underlying ht, asIntOf, hb, hb'] <;> rfl, .int _ _⟩
    · cases h
  · cases h

theorem aFld_sound {t : TypeId} {f : Nat} {fd : Field} {sh : Option Nat} {x : AV} {xv : Value} {v : AV} (hf : fieldOf P t f = some fd) (hs : shape? P fd.type = some sh) (hx : VR g n x xv) (h : aFld sh fd.offset x = some v) :
    ∃ z, (Instr.field t xv f).run P w = .ok z w ∧ VR g n v z := by
  unfold aFld at h
  split at h
  · cases hx with
    | agg cs xs hx =>
      obtain ⟨z, hz, r⟩ := part_sound (P := P) w hs hx h
      refine ⟨z, ?_, r⟩
      unfold fieldOf at hf
      split at hf
      · rename_i fs hu
        simp [Instr.field, run_underlying hu, hf, asAgg, hz]
      · cases hf
  · cases h

theorem aExt_sound {ix : Nat} {x : AV} {xv : Value} {v : AV} (hx : VR g n x xv) (h : aExt ix x = some v) : ∃ z, (Instr.extract xv ix).run P w = .ok z w ∧ VR g n v z := by
  unfold aExt at h
  split at h
  · cases hx with
    | tup cs xs hx =>
      obtain ⟨z, hz, r⟩ := hx.get ix h
      exact ⟨z, by simp [Instr.extract, hz], r⟩
  · cases h

theorem aLenStr_sound {t ty : TypeId} {x : AV} {xv : Value} {v : AV} (hu : P.underlying t = some .string) (hx : VR g n x xv) (h : aLenStr x = some v) :
    ∃ z, (Builtin.len_ #[t] ty #[xv]).run P w = .ok z w ∧ VR g n v z := by
  unfold aLenStr at h
  split at h
  · cases hx; cases h
    exact ⟨_, by simp [Builtin.len_, run_underlying hu] <;> rfl, .int _ _⟩
  · cases h
theorem aLenS_sound {t ty e : TypeId} {x : AV} {xv : Value} {v : AV} (hu : P.underlying t = some (.slice e)) (hx : VR g n x xv) (h : aLenS x = some v) :
    ∃ z, (Builtin.len_ #[t] ty #[xv]).run P w = .ok z w ∧ VR g n v z := by
  unfold aLenS at h
  split at h
  all_goals first
    | (cases h; done)
    | (cases hx; cases h; exact ⟨_, by simp [Builtin.len_, run_underlying hu] <;> rfl, .int _ _⟩)

theorem aMin2_sound {x y : AV} {xv yv : Value} {v : AV} (hx : VR g n x xv) (hy : VR g n y yv) (h : aMin2 x y = some v) : ∃ z, (Builtin.min2 xv yv).run P w = .ok z w ∧ VR g n v z := by
  unfold aMin2 at h
  split at h
  · cases hx; cases hy; cases h; exact ⟨_, rfl, .int _ _⟩
  · cases h
theorem aMax2_sound {x y : AV} {xv yv : Value} {v : AV} (hx : VR g n x xv) (hy : VR g n y yv) (h : aMax2 x y = some v) : ∃ z, (Builtin.max2 xv yv).run P w = .ok z w ∧ VR g n v z := by
  unfold aMax2 at h
  split at h
  · cases hx; cases hy; cases h; exact ⟨_, rfl, .int _ _⟩
  · cases h
theorem aFold_sound {f : AV → AV → Option AV} {F : Value → Value → Sem Value} (hf : ∀ {x y xv yv v}, VR g n x xv → VR g n y yv → f x y = some v → ∃ z, (F xv yv).run P w = .ok z w ∧ VR g n v z) :
    ∀ {ys : List AV} {yvs : List Value} {x : AV} {xv : Value} {v : AV}, VR g n x xv → VRs g n ys yvs → aFold f x ys = some v → ∃ z, (yvs.foldlM F xv).run P w = .ok z w ∧ VR g n v z := by
  intro ys
  induction ys with
  | nil =>
    intro yvs x xv v hx hy h
    cases hy
    simp [aFold] at h; subst h
    exact ⟨xv, by simp, hx⟩
  | cons y ys ih =>
    intro yvs x xv v hx hy h
    cases hy with
    | cons _ yv _ yvs h1 h2 =>
      simp only [aFold] at h
      cases hz : f x y with
      | none => rw [hz] at h; cases h
      | some z =>
        rw [hz] at h
        obtain ⟨zv, e1, r1⟩ := hf hx h1 hz
        obtain ⟨u, e2, r2⟩ := ih r1 h2 h
        exact ⟨u, by simp [List.foldlM_cons, e1, e2], r2⟩

/-! parts of strings and slices -/

theorem low_sound {lo : Option AV} {lv : Option Value} {h : Nat} {l : Int} (hr : match lo, lv with | none, none => True | some a, some b => VR g n a b | _, _ => False) (hl : lowOf lo = some l) (h0 : 0 ≤ l) (h1 : l ≤ h) (c : BoundsCode) :
    (match lv with | some v => Instr.sliceBound v h c | none => pure 0 : Sem Nat).run P w = .ok l.toNat w := by
  unfold lowOf at hl
  split at hl
  · cases lv with
    | none => cases hl; simp
    | some _ => exact hr.elim
  · cases lv with
    | none => exact hr.elim
    | some v =>
      cases hr; cases hl
      simp [Instr.sliceBound, asIntOf, h0, h1]
  · cases hl
theorem high_sound {hi : Option AV} {hv : Option Value} {len y : Nat} {h : Int} (hr : match hi, hv with | none, none => True | some a, some b => VR g n a b | _, _ => False) (hh : highOf len hi = some h) (h0 : 0 ≤ h) (h1 : h ≤ len) (hy : len ≤ y) (c : BoundsCode) :
    (match hv with | some v => Instr.sliceBound v y c | none => pure len : Sem Nat).run P w = .ok h.toNat w := by
  unfold highOf at hh
  split at hh
  · cases hv with
    | none => cases hh; simp
    | some _ => exact hr.elim
  · cases hv with
    | none => exact hr.elim
    | some v =>
      cases hr; cases hh
      simp [Instr.sliceBound, asIntOf, h0, show h ≤ (y : Int) by omega]
  · cases hh

theorem bounds_sound (isS : Bool) {lo hi : Option AV} {lv hv : Option Value} {len cap : Nat} {l h : Int} (hc : len ≤ cap)
    (h1 : match lo, lv with | none, none => True | some a, some b => VR g n a b | _, _ => False) (h2 : match hi, hv with | none, none => True | some a, some b => VR g n a b | _, _ => False)
    (hl : lowOf lo = some l) (hh : highOf len hi = some h) (b0 : 0 ≤ l) (b1 : l ≤ h) (b2 : h ≤ len) :
    (Instr.sliceBounds isS len cap lv hv none).run P w = .ok (l.toNat, h.toNat, cap) w := by
  have e1 := high_sound (P := P) w h2 hh (by omega) b2 hc (if isS then .sliceAcap else .sliceAlen)
  have e2 := low_sound (P := P) (h := h.toNat) w h1 hl b0 (by omega) .sliceB
  unfold Instr.sliceBounds
  cases hv <;> cases lv <;> simp_all

end Go.Proofs.YtooogfnmhfocjaaDoor.Spl

/- The abstract machine, 6: parts of strings and slices, structs built. -/
namespace Go.Proofs.YtooogfnmhfocjaaDoor.Spl
open Go Go.RowKit
set_option linter.unusedVariables false
set_option linter.unusedSimpArgs false

variable {P : Program} {g : Gm} {n : Nat} (w : World)

def ORel (g : Gm) (n : Nat) (a : Option AV) (v : Option Value) : Prop :=
  match a, v with
  | none, none => True
  | some a, some b => VR g n a b
  | _, _ => False

theorem aSliceStr_sound {t : TypeId} {x v : AV} {xv : Value} {lo hi : Option AV} {lv hv : Option Value} (ht : P.underlying t = some .string) (hx : VR g n x xv) (hl : ORel g n lo lv) (hh : ORel g n hi hv)
    (h : aSliceStr x lo hi = some v) : ∃ z, (Instr.sliceAt t xv lv hv none).run P w = .ok z w ∧ VR g n v z := by
  unfold aSliceStr at h
  split at h
  · rename_i s
    split at h
    · rename_i l hh' e1 e2
      split at h
      · rename_i hb
        cases hx; cases h
        have := bounds_sound (P := P) w false (Nat.le_refl s.size) hl hh e1 e2 hb.1 hb.2.1 hb.2.2
        exact ⟨_, by simp [Instr.sliceAt, run_underlying ht, Instr.slice, this] <;> rfl, .str _⟩
      · cases h
    · cases h
  · cases h

theorem aSlice_sound {t e : TypeId} {size : Nat} {x v : AV} {xv : Value} {lo hi : Option AV} {lv hv : Option Value} (ht : P.underlying t = some (.slice e)) (he : size? P e = some size) (hx : VR g n x xv) (hl : ORel g n lo lv) (hh : ORel g n hi hv)
    (h : aSlice size x lo hi = some v) : ∃ z, (Instr.sliceAt t xv lv hv none).run P w = .ok z w ∧ VR g n v z := by
  unfold aSlice at h
  split at h
  · split at h
    · rename_i l hh' e1 e2
      split at h
      · rename_i hb
        obtain ⟨rfl, rfl⟩ := hb
        cases hx; cases h
        have := bounds_sound (P := P) w true (Nat.le_refl 0) hl hh e1 e2 (by omega) (by omega) (by omega)
        exact ⟨.slice none 0 0, by simp [Instr.sliceAt, run_underlying ht, Instr.slice, this, run_size he], .nilslice⟩
      · cases h
    · cases h
  · split at h
    · rename_i l hh' e1 e2
      split at h
      · rename_i hb
        obtain ⟨rfl, rfl⟩ := hb
        cases hx with
        | dang a cap =>
          cases h
          have := bounds_sound (P := P) w true (Nat.zero_le cap) hl hh e1 e2 (by omega) (by omega) (by omega)
          refine ⟨.slice (some a) 0 cap, ?_, .dang _ _⟩
          simp [Instr.sliceAt, run_underlying ht, Instr.slice, this, run_size he, Addr.add]
      · cases h
    · cases h
  · rename_i i o len es
    split at h
    · rename_i l hh' e1 e2
      split at h
      · rename_i hb
        cases hx with
        | slice _ _ _ _ cap h1 h2 h3 =>
          have hbd := bounds_sound (P := P) w true h2 hl hh e1 e2 hb.1 hb.2.1 hb.2.2
          have hrun : (Instr.sliceAt t (.slice (some ⟨g.blk i, o, none⟩) len cap) lv hv none).run P w =
              .ok (.slice (if cap = l.toNat then some ⟨g.blk i, o, none⟩ else some ((⟨g.blk i, o, none⟩ : Addr).add (l.toNat * size))) (hh'.toNat - l.toNat) (cap - l.toNat)) w := by
            simp [Instr.sliceAt, run_underlying ht, Instr.slice, hbd, run_size he]
          split at h
          · rename_i h0; subst h0; cases h
            refine ⟨_, hrun, ?_⟩
            have e : (if cap = (0 : Int).toNat then some (⟨g.blk i, o, none⟩ : Addr) else some ((⟨g.blk i, o, none⟩ : Addr).add ((0 : Int).toNat * size))) = some ⟨g.blk i, o, none⟩ := by
              split <;> simp [Addr.add]
            rw [e]
            simp only [Int.toNat_zero, Nat.sub_zero]
            exact .slice _ _ _ _ _ h1 (by omega) h3
          · rename_i h0
            split at h
            · rename_i hlh; cases h
              refine ⟨_, hrun, ?_⟩
              rw [hlh, Nat.sub_self]
              split <;> exact .dang _ _
            · rename_i hlh; cases h
              refine ⟨_, hrun, ?_⟩
              have hne : ¬ cap = l.toNat := by omega
              rw [if_neg hne, addr_add]
              have e : hh'.toNat - l.toNat = (hh' - l).toNat := by omega
              rw [e]
              refine .slice _ _ _ _ _ h1 (by omega) (fun hb0 hne0 => ?_)
              by_cases hes : es = size
              · subst hes
                rw [if_pos rfl] at hne0 ⊢
                have := h3 hb0 hne0
                have h5 : l.toNat ≤ cap := by omega
                have e2 : cap * es = l.toNat * es + (cap - l.toNat) * es := by rw [← Nat.add_mul]; congr 1; omega
                omega
              · rw [if_neg hes] at hne0; exact absurd rfl hne0
      · cases h
    · cases h
  · cases h

theorem aSliceA_sound {t e : TypeId} {k size : Nat} {x v : AV} {xv : Value} {lo hi : Option AV} {lv hv : Option Value} (ht : P.underlying t = some (.array k e)) (he : size? P e = some size) (hx : VR g n x xv) (hl : ORel g n lo lv) (hh : ORel g n hi hv)
    (h : aSliceA k size x lo hi = some v) : ∃ z, (Instr.sliceAt t xv lv hv none).run P w = .ok z w ∧ VR g n v z := by
  unfold aSliceA at h
  split at h
  · rename_i i o
    split at h
    · rename_i l hh' e1 e2
      split at h
      · rename_i hb
        cases hx with
        | ptr _ _ h1 =>
          have hbd := bounds_sound (P := P) w false (Nat.le_refl k) hl hh e1 e2 hb.1 hb.2.1 hb.2.2
          have hrun : (Instr.sliceAt t (.pointer (some ⟨g.blk i, o, none⟩)) lv hv none).run P w =
              .ok (.slice (some (if k = l.toNat then ⟨g.blk i, o, none⟩ else (⟨g.blk i, o, none⟩ : Addr).add (l.toNat * size))) (hh'.toNat - l.toNat) (k - l.toNat)) w := by
            simp [Instr.sliceAt, run_underlying ht, Instr.sureAddr, hbd, run_size he]
          split at h
          · rename_i h0; subst h0; cases h
            refine ⟨_, hrun, ?_⟩
            have e : (if k = (0 : Int).toNat then (⟨g.blk i, o, none⟩ : Addr) else ((⟨g.blk i, o, none⟩ : Addr).add ((0 : Int).toNat * size))) = ⟨g.blk i, o, none⟩ := by
              split <;> simp [Addr.add]
            rw [e]
            simp only [Int.toNat_zero, Nat.sub_zero]
            exact .slice _ _ _ _ _ h1 (by omega) (fun _ h => absurd rfl h)
          · rename_i h0
            split at h
            · rename_i hlh; cases h
              refine ⟨_, hrun, ?_⟩
              rw [hlh, Nat.sub_self]
              exact .dang _ _
            · rename_i hlh; cases h
              refine ⟨_, hrun, ?_⟩
              have hne : ¬ k = l.toNat := by omega
              rw [if_neg hne, addr_add]
              have e : hh'.toNat - l.toNat = (hh' - l).toNat := by omega
              rw [e]
              exact .slice _ _ _ _ _ h1 (by omega) (fun _ h => absurd rfl h)
      · cases h
    · cases h
  · cases h

/-! filling -/
theorem foldl_set (vs : List Value) : ∀ (o j : Nat) (cs : Array Value), o + j + vs.length ≤ cs.size →
    (vs.zipIdx j).foldl (fun cs (c, i) => cs.setIfInBounds (o + i) c) cs = (cs.toList.take (o + j) ++ vs ++ cs.toList.drop (o + j + vs.length)).toArray := by
  induction vs with
  | nil => intro o j cs h; simp
  | cons v vs ih =>
    intro o j cs h
    simp only [List.length_cons] at h
    simp only [List.zipIdx_cons, List.foldl_cons]
    rw [ih o (j + 1) _ (by simp; omega)]
    apply Array.ext'
    have e := list_seg_step cs.toList (o + j) v vs (by simp; omega)
    simpa [Array.toList_setIfInBounds, Nat.add_assoc] using e

theorem aFill_sound {place : Nat → Option (Nat × Nat)} : ∀ {parts : List (Nat × AV)} {pvs : List (Nat × Value)} {cs r : List AV} {xs : List Value},
    VRs g n cs xs → parts.length = pvs.length → (∀ (j : Nat) a b, parts[j]? = some a → pvs[j]? = some b → a.1 = b.1 ∧ VR g n a.2 b.2) → aFill place cs parts = some r →
    ∃ ys, Instr.fill place xs.toArray pvs = some ys ∧ VRs g n r ys.toList := by
  intro parts
  induction parts with
  | nil =>
    intro pvs cs r xs hv hl hp h
    cases pvs with
    | nil => simp [aFill] at h; subst h; exact ⟨xs.toArray, rfl, by simpa using hv⟩
    | cons _ _ => simp at hl
  | cons p parts ih =>
    intro pvs cs r xs hv hl hp h
    cases pvs with
    | nil => simp at hl
    | cons q pvs =>
      obtain ⟨i, v⟩ := p
      obtain ⟨i', x⟩ := q
      obtain ⟨e, hvx⟩ := hp 0 (i, v) (i', x) rfl rfl
      simp only at e hvx; subst e
      simp only [aFill] at h
      split at h
      · rename_i off size vs hpl hcs
        split at h
        · rename_i hb
          have hx := hvx.cells hcs
          have hlx := hx.length
          have hlc := hv.length
          have hn : ¬ (x.cells.size ≠ size ∨ off + x.cells.size > xs.toArray.size) := by simp at hlx ⊢; omega
          have hfold : (x.cells.zipIdx.foldl (fun cs (c, j) => cs.setIfInBounds (off + j) c) xs.toArray) = (xs.take off ++ x.cells.toList ++ xs.drop (off + x.cells.size)).toArray := by
            have := foldl_set x.cells.toList off 0 xs.toArray (by simp at hlx ⊢; omega)
            rw [← Array.foldl_toList, Array.toList_zipIdx]
            simpa using this
          have hv' : VRs g n (splice cs off vs) (xs.take off ++ x.cells.toList ++ xs.drop (off + x.cells.size)) := by
            rw [splice_eq _ _ _ hb.2]
            have : x.cells.size = vs.length := by rw [hlx]; simp
            rw [this]
            exact ((hv.take off).append hx).append (hv.drop _)
          obtain ⟨ys, h1, h2⟩ := ih hv' (by simpa using hl) (fun j a b ha hb => hp (j + 1) a b (by simpa using ha) (by simpa using hb)) h
          refine ⟨ys, ?_, h2⟩
          simp only [Instr.fill, hpl]
          rw [if_neg (by simpa using hn), hfold]
          exact h1
        · cases h
      · cases h

theorem zero_sound {t : TypeId} {cs : List AV} (h : zeroCells? P t = some cs) : ∃ i z, P.info? t = some i ∧ i.zero = some z ∧ VRs g n cs z.cells.toList ∧ ∀ w, (zeroValue t).run P w = .ok z w := by
  unfold zeroCells? at h
  cases hi : P.info? t with
  | none => simp [hi] at h
  | some i =>
    cases hz : i.zero with
    | none => simp [hi, hz] at h
    | some z =>
      simp [hi, hz] at h
      exact ⟨i, z, rfl, hz, (VR.av g n z).cells h, fun w => by simp [zeroValue, typeInfo, hi, hz]⟩

theorem places_sound : ∀ {fs : List Field} {pl : List (Nat × Nat)}, placesOf P fs = some pl → fs.mapM (fun f => (P.info? f.type).map fun i => (f.offset, i.size)) = some pl
  | [], pl, h => by simp [placesOf] at h; subst h; rfl
  | f :: fs, pl, h => by
    simp only [placesOf] at h
    split at h
    · rename_i a r h1 h2
      cases h
      have := places_sound h2
      unfold size? at h1
      obtain ⟨i, hi, rfl⟩ := Option.map_eq_some_iff.1 h1
      simp [List.mapM_cons, hi, this]
    · cases h

theorem build_sound {t : TypeId} {parts : List (Nat × AV)} {pvs : Array (Nat × Value)} {v : AV} (hl : parts.length = pvs.size)
    (hp : ∀ (j : Nat) a b, parts[j]? = some a → pvs.toList[j]? = some b → a.1 = b.1 ∧ VR g n a.2 b.2) (h : buildOf P t parts = some v) :
    ∃ z, (Instr.build t pvs).run P w = .ok z w ∧ VR g n v z := by
  unfold buildOf at h
  split at h
  · rename_i z fs hz hu
    split at h
    · rename_i pl hpl
      obtain ⟨cs, hcs, rfl⟩ := Option.map_eq_some_iff.1 h
      obtain ⟨i, zv, hi, hiz, hzv, _⟩ := zero_sound (g := g) (n := n) hz
      obtain ⟨ys, h1, h2⟩ := aFill_sound hzv (by simpa using hl) hp hcs
      refine ⟨.agg ys, run_build w t pvs ys ?_, ?_⟩
      · unfold Program.built
        simp only [hi, hu, hiz]
        rw [places_sound hpl]
        have e : (fun i : Nat => pl.toArray[i]?) = fun i => pl[i]? := by funext i; simp
        simp only [e]
        simpa using h1
      · have := VR.agg _ _ h2
        simpa using this
    · cases h
  · rename_i z k e hz hu
    split at h
    · rename_i size hs
      obtain ⟨cs, hcs, rfl⟩ := Option.map_eq_some_iff.1 h
      obtain ⟨i, zv, hi, hiz, hzv, _⟩ := zero_sound (g := g) (n := n) hz
      obtain ⟨ys, h1, h2⟩ := aFill_sound hzv (by simpa using hl) hp hcs
      refine ⟨.agg ys, run_build w t pvs ys ?_, ?_⟩
      · unfold Program.built
        unfold size? at hs
        obtain ⟨ie, hie, rfl⟩ := Option.map_eq_some_iff.1 hs
        simp only [hi, hu, hiz, hie]
        simpa using h1
      · have := VR.agg _ _ h2
        simpa using this
    · cases h
  · cases h

end Go.Proofs.YtooogfnmhfocjaaDoor.Spl

/- The abstract machine, 7: operations on memory. -/
namespace Go.Proofs.YtooogfnmhfocjaaDoor.Spl
open Go Go.RowKit Go.Lib
set_option linter.unusedVariables false
set_option linter.unusedSimpArgs false

variable {P : Program} {W : Ref} {g : Gm} {m m' : Mem} {w : World}

theorem load_sound {t : TypeId} {sh : Option Nat} {a v : AV} {av : Value} (s : Sim W g m w) (ht : shape? P t = some sh) (ha : VR g m.next a av) (h : load? sh a m = some v) :
    ∃ z, (Instr.loadAt t av).run P w = .ok z w ∧ VR g m.next v z := by
  unfold load? at h
  split at h
  · rename_i i o
    cases ha with
    | ptr _ _ hi =>
      split at h
      · rename_i cs hc
        unfold aPart at h
        cases sh with
        | some k =>
          obtain ⟨h1, h2⟩ := shape_some ht
          simp at h
          obtain ⟨h3, rfl⟩ := h
          obtain ⟨xs, hxl, hx, hv⟩ := s.range hi hc h3
          refine ⟨.agg xs.toArray, ?_, .agg _ _ hv⟩
          have hl := run_loadCells_list (P := P) w ⟨g.blk i, o, none⟩ xs hx
          rw [hxl] at hl
          simp [Instr.loadAt, Instr.sureAddr, loadVar, h1, run_size h2, hl]
        | none =>
          obtain ⟨h1, h2⟩ := shape_none ht
          simp at h
          obtain ⟨z, hz, r⟩ := s.cell hi hc h
          exact ⟨z, by simp [Instr.loadAt, Instr.sureAddr, loadVar, h1, hz], r⟩
      · cases h
  · cases h

theorem storeCs_sound (P : Program) {a : AV} {av : Value} {vs : List AV} {xs : List Value} {u : Unit} (s : Sim W g m w) (ha : VR g m.next a av) (hv : VRs g m.next vs xs) (h : storeCs a vs m = some (u, m')) :
    ∃ b w', av = .pointer (some b) ∧ (storeCells b xs).run P w = .ok () w' ∧ Sim W g m' w' ∧ m'.next = m.next := by
  unfold storeCs at h
  simp only [forceList_eq, forceNat_eq] at h
  split at h
  · rename_i i o
    cases ha with
    | ptr _ _ hi =>
      split at h
      · rename_i ty fz cs hg
        split at h
        · rename_i hb
          simp at h; subst h
          obtain ⟨w', h1, h2⟩ := s.store P hb.1 hi hg hb.2.1 hb.2.2.1 hb.2.2.2 hv
          exact ⟨_, w', rfl, h1, h2, rfl⟩
        · cases h
      · cases h
  · cases h

theorem store_sound {t : TypeId} {sh : Option Nat} {a v u : AV} {av xv : Value} (s : Sim W g m w) (ht : shape? P t = some sh) (ha : VR g m.next a av) (hv : VR g m.next v xv) (h : store sh a v m = some (u, m')) :
    ∃ w', (Instr.storeAt t av xv).run P w = .ok () w' ∧ Sim W g m' w' ∧ m'.next = m.next ∧ u = .undef := by
  unfold store at h
  split at h
  · split at h
    · rename_i hone
      obtain ⟨h1, h2⟩ := shape_none ht
      unfold bnd at h
      split at h
      · rename_i u' m1 hs
        simp [ret] at h
        obtain ⟨rfl, rfl⟩ := h
        obtain ⟨b, w', rfl, h3, h4, h5⟩ := storeCs_sound P s ha (.cons _ _ _ _ hv .nil) hs
        refine ⟨w', ?_, h4, h5, rfl⟩
        have hc : xv.cells = #[xv] := by
          have := hv.oneCell hone
          cases xv <;> simp_all [Value.cells, Value.oneCell']
        simp [Instr.storeAt, Instr.sureAddr, storeVar, run_size h2, hc, h3]
      · cases h
    · simp [fail] at h
  · rename_i k cs
    split at h
    · rename_i hk
      obtain ⟨h1, h2⟩ := shape_some ht
      unfold bnd at h
      split at h
      · rename_i u' m1 hs
        simp [ret] at h
        obtain ⟨rfl, rfl⟩ := h
        cases hv with
        | agg _ xs hv =>
          obtain ⟨b, w', rfl, h3, h4, h5⟩ := storeCs_sound P s ha hv hs
          refine ⟨w', ?_, h4, h5, rfl⟩
          have hl := hv.length
          simp [Instr.storeAt, Instr.sureAddr, storeVar, run_size h2, Value.cells, h3, show xs.length = k by omega]
      · cases h
    · simp [fail] at h
  · simp [fail] at h

/-- What an operation that may make memory comes to. -/
def Made (P : Program) (W : Ref) (g : Gm) (m : Mem) (w : World) (x : Sem Value) (v : AV) (m' : Mem) : Prop :=
  ∃ z g' w', x.run P w = .ok z w' ∧ VR g' m'.next v z ∧ Sim W g' m' w' ∧ Ext' g m.next g' m'.next

theorem new_sound (P : Program) {ty : TypeId} {cs : List AV} {c : Array Value} (s : Sim W g m w) (hv : VRs g m.next cs c.toList) (v : Value → Value) :
    ∃ w' g', (newRow ty c).run P w = .ok ⟨w.heap.size, 0, none⟩ w' ∧ Sim W g' (m.alloc (.cells ty 0 cs)) w' ∧ Ext' g m.next g' (m.next + 1) ∧ g'.blk m.next = w.heap.size ∧ g'.sz m.next = c.size := by
  have hl := hv.length
  have := s.alloc c ty 0 0 0 cs (by simp at hl; omega) (fun _ => Nat.le_refl _) (by rw [List.take_of_length_le (by omega)]; exact hv)
  exact ⟨_, _, rfl, this, g.put_ext _ _ _, by simp [Gm.put], by simp [Gm.put]⟩

theorem alloc_sound {e : TypeId} {z : List AV} {v : AV} (s : Sim W g m w) (hz : zeroCells? P e = some z) (h : alloc e z m = some (v, m')) : Made P W g m w (Instr.alloc e true (.tuple #[])) v m' := by
  simp [alloc_def] at h
  obtain ⟨rfl, rfl⟩ := h
  obtain ⟨i, zv, hi, hiz, hzv, hrun⟩ := zero_sound (g := g) (n := m.next) hz
  obtain ⟨w', g', h1, h2, h3, h4, h5⟩ := new_sound P s hzv id (ty := e)
  refine ⟨.pointer (some ⟨w.heap.size, 0, none⟩), g', w', ?_, ?_, h2, h3⟩
  · simp [Instr.alloc, hrun, newVar, h1]
  · rw [← h4]; exact .ptr _ _ (by simp)

theorem box_sound {e : TypeId} {x v : AV} {xv : Value} (s : Sim W g m w) (hx : VR g m.next x xv) (h : box e x m = some (v, m')) : Made P W g m w (Instr.box e xv) v m' := by
  unfold box at h
  cases hc : x.cells? with
  | none => rw [hc] at h; simp [fail] at h
  | some cs =>
    rw [hc] at h
    simp [alloc_def] at h
    obtain ⟨rfl, rfl⟩ := h
    obtain ⟨w', g', h1, h2, h3, h4, h5⟩ := new_sound P s (hx.cells hc) id (ty := e)
    refine ⟨.pointer (some ⟨w.heap.size, 0, none⟩), g', w', ?_, ?_, h2, h3⟩
    · simp [Instr.box, newVar, h1]
    · rw [← h4]; exact .ptr _ _ (by simp)

theorem allocS_sound {e es len : Nat} {cs : List AV} {v : AV} {c : Array Value} (s : Sim W g m w) (hv : VRs g m.next cs c.toList) (hl : c.size = len * es) (h : allocS e es len cs m = some (v, m')) :
    Made P W g m w (do pure (.slice (some (← newRow e c)) len len)) v m' := by
  simp [allocS_def] at h
  obtain ⟨rfl, rfl⟩ := h
  obtain ⟨w', g', h1, h2, h3, h4, h5⟩ := new_sound P s hv id (ty := e)
  refine ⟨.slice (some ⟨w.heap.size, 0, none⟩) len len, g', w', by simp [h1], ?_, h2, h3⟩
  rw [← h4]
  exact .slice _ _ _ _ _ (by simp) (Nat.le_refl _) (fun _ _ => by rw [h5, hl]; omega)

theorem flatten_length {α : Type} (z : List α) : ∀ k : Nat, ((List.replicate k z).flatten).length = k * z.length
  | 0 => by simp
  | k + 1 => by simp [List.replicate_succ, flatten_length z k, Nat.succ_mul]; omega

theorem madeCells_eq (z : Array Value) (k : Nat) : madeCells z (k * z.size) = ((List.replicate k z.toList).flatten).toArray := by
  apply Array.ext'
  apply List.ext_getElem?
  intro j
  induction k generalizing j with
  | zero => simp [madeCells]
  | succ k ih =>
    simp only [madeCells, List.replicate_succ, List.flatten_cons] at ih ⊢
    rw [List.getElem?_append]
    simp only [Array.toList_map, Array.toList_range, List.getElem?_map, Array.length_toList] at ih ⊢
    split
    · rename_i hj
      rw [List.getElem?_range (by rw [Nat.succ_mul]; omega)]
      simp [Nat.mod_eq_of_lt hj, hj]
    · rename_i hj
      have := ih (j - z.size)
      rw [← this]
      by_cases hb : j < (k + 1) * z.size
      · rw [List.getElem?_range hb, List.getElem?_range (by rw [Nat.succ_mul] at hb; omega)]
        simp only [Option.map_some]
        have : j % z.size = (j - z.size) % z.size := by
          rw [Nat.mod_eq_sub_mod (by omega)]
        rw [this]
      · rw [List.getElem?_eq_none (by simpa using hb), List.getElem?_eq_none (by rw [Nat.succ_mul] at hb; simp; omega)]

theorem buildSlice_sound {t e : TypeId} {n len : Nat} {z cs : List AV} {parts : List (Nat × AV)} {pvs : Array (Nat × Value)} {v : AV} (s : Sim W g m w) (ht : P.underlying t = some (.slice e)) (he : size? P e = some n) (hz : zeroCells? P e = some z)
    (hn : len * n ≤ 2 ^ 24) (hzl : z.length = n) (hl : parts.length = pvs.size) (hp : ∀ (j : Nat) a b, parts[j]? = some a → pvs.toList[j]? = some b → a.1 = b.1 ∧ VR g m.next a.2 b.2)
    (hf : aFill (fun i => some (i * n, n)) ((List.replicate len z).flatten) parts = some cs) (h : allocS e n len cs m = some (v, m')) : Made P W g m w (Instr.buildSlice t len pvs) v m' := by
  obtain ⟨i, zv, hi, hiz, hzv, hrun⟩ := zero_sound (g := g) (n := m.next) hz
  have hzn : zv.cells.size = n := by have := hzv.length; simp at this; omega
  have hz' := hzv.flatten_replicate len
  obtain ⟨ys, h1, h2⟩ := aFill_sound hz' (by simpa using hl) hp hf
  have hmade : madeCells zv.cells (len * n) = ((List.replicate len zv.cells.toList).flatten).toArray := by rw [← hzn]; exact madeCells_eq _ _
  have hcsl : cs.length = len * n := by
    have : ∀ (parts : List (Nat × AV)) (a r : List AV), aFill (fun i => some (i * n, n)) a parts = some r → r.length = a.length := by
      intro parts
      induction parts with
      | nil => intro a r h; simp [aFill] at h; subst h; rfl
      | cons p ps ih =>
        intro a r h
        simp only [aFill] at h
        split at h
        · split at h
          · rw [ih _ _ h, splice_length]
          · cases h
        · cases h
    rw [this _ _ _ hf, flatten_length, hzl]
  have hys : ys.size = len * n := by have := h2.length; simp at this; omega
  have hm := allocS_sound (P := P) s h2 hys h
  obtain ⟨zr, g', w', e1, e2, e3, e4⟩ := hm
  refine ⟨zr, g', w', ?_, e2, e3, e4⟩
  have hn' : ¬ len * n > 2 ^ 24 := by omega
  simp only [Instr.buildSlice, Sem.run_bind, run_underlying ht, Result.andThen_ok, run_size he]
  rw [if_neg hn']
  by_cases h0 : len * n = 0
  · have hf1 : Instr.fill (fun i => some (i * n, n)) ((Array.range (len * n)).map ((#[] : Array Value)[· % (#[] : Array Value).size]!)) pvs.toList = some ys := by
      rw [← h1, ← hmade]; simp [h0, madeCells, Array.range_zero']
    rw [if_pos h0]
    simp only [Sem.run_bind, Sem.run_pure, Result.andThen_ok, hf1] at e1 ⊢
    exact e1
  · have hf1 : Instr.fill (fun i => some (i * n, n)) ((Array.range (len * n)).map (zv.cells[· % zv.cells.size]!)) pvs.toList = some ys := by
      rw [← h1, ← hmade]; rfl
    rw [if_neg h0]
    simp only [Sem.run_bind, hrun, Sem.run_pure, Result.andThen_ok, hf1] at e1 ⊢
    exact e1

theorem byteCells_rel (g : Gm) (n : Nat) (x : ByteArray) : VRs g n (Spl.byteCells x) (strCells x) := VRs.ofFn _ _ (fun b => .int _ _) _

/-- The first elements of a slice or string. -/
theorem elems_sound {size n : Nat} {x : AV} {xv : Value} {cs : List AV} (s : Sim W g m w) (hx : VR g m.next x xv) (h : elems size n x m = some cs) :
    ∃ xs : List Value, xs.length = cs.length ∧ VRs g m.next cs xs ∧ (Builtin.firstCells size n xv).run P w = .ok xs.toArray w ∧ (Builtin.firstCells size n xv).run P w.drew = .ok xs.toArray w.drew ∧ cs.length = n * size := by
  unfold elems at h
  split at h
  · rename_i i o len es
    cases hx with
    | slice _ _ _ _ cap h1 h2 h3 =>
      split at h
      · rename_i c0 hc
        split at h
        · rename_i hb
          cases h
          obtain ⟨xs, hxl, hcell, hv⟩ := s.range h1 hc hb.2
          have hl := hv.length
          have hr := run_loadCells_list (P := P) w ⟨g.blk i, o, none⟩ xs hcell
          have hr' := run_loadCells_list (P := P) w.drew ⟨g.blk i, o, none⟩ xs hcell
          rw [hxl] at hr hr'
          exact ⟨xs, by omega, hv, hr, hr', by omega⟩
        · cases h
      · cases h
  · cases hx
    split at h
    · rename_i h0; subst h0; cases h; exact ⟨[], rfl, .nil, rfl, rfl, by simp⟩
    · cases h
  · cases hx
    split at h
    · rename_i h0; subst h0; cases h
      exact ⟨[], rfl, .nil, by simp [Builtin.firstCells, loadCells, loadCellsFrom], by simp [Builtin.firstCells, loadCells, loadCellsFrom], by simp⟩
    · cases h
  · rename_i x
    cases hx
    split at h
    · rename_i hb
      cases h
      obtain ⟨rfl, hb⟩ := hb
      have hv := (byteCells_rel g m.next x).take n
      have hl : (Spl.byteCells x).length = x.size := by simp [Spl.byteCells]
      have e : ((x.extract 0 n).data.map fun b => Value.int .u8 b.toNat) = ((strCells x).take n).toArray := by
        apply Array.ext'
        simp [strCells, List.map_take]
      refine ⟨(strCells x).take n, by rw [hv.length], hv, ?_, ?_, by simp [hl]; omega⟩
      · simp only [Builtin.firstCells, Sem.run_pure]; rw [e]
      · simp only [Builtin.firstCells, Sem.run_pure]; rw [e]
    · cases h
  · cases h

theorem count_sound {x : AV} {xv : Value} {n k : Nat} (hx : VR g k x xv) (h : count x = some n) (w : World) : (Builtin.lenOf xv).run P w = .ok n w := by
  unfold count at h
  split at h <;> first | (cases h; done) | (cases hx; cases h; rfl)

theorem one_rel {vs : List AV} {xs : List Value} {k : Nat} (hv : VRs g k vs xs) (hone : vs.all AV.one = true) : ∀ x ∈ xs, x.oneCell' = true := by
  intro x hx
  obtain ⟨j, hj, rfl⟩ := List.getElem_of_mem hx
  have hl := hv.length
  obtain ⟨y, hy, r⟩ := hv.get j (v := vs[j]'(by omega)) (by simp)
  rw [List.getElem?_eq_getElem hj] at hy; cases hy
  exact r.oneCell (List.all_eq_true.1 hone _ (List.getElem_mem _))

theorem run_append_room' {st xt ty e : TypeId} {i : TypeInfo} {d : TypeDesc} (ht : P.underlying st = some (.slice e)) (hd : P.underlying xt = some d) (hdi : ∀ k, d ≠ .int k) (hi : P.info? e = some i) (w : World)
    (base : Option Addr) (sLen sCap k : Nat) (xval : Value) (xs : List Value) (hk : (Builtin.lenOf xval).run P w = .ok k w) (hx : (Builtin.firstCells i.size k xval).run P w = .ok xs.toArray w) (hroom : sLen + k ≤ sCap) :
    (Builtin.append_ #[st, xt] ty #[.slice base sLen sCap, xval]).run P w =
      ((match base with | some a => storeCells (a.add (sLen * i.size)) xs | none => pure () : Sem Unit).run P w).andThen fun _ w' => .ok (.slice base (sLen + k) sCap) w' := by
  have hm : (match d with | .int _ => true | _ => false) = false := by cases d <;> first | rfl | exact absurd rfl (hdi _)
  cases base <;> simp [Builtin.append_, run_underlying ht, run_underlying hd, Go.sizeOf, typeInfo, hi, hm, hk, hx, hroom]

theorem run_append_grow' {st xt ty e : TypeId} {i : TypeInfo} {z : Value} {d : TypeDesc} (ht : P.underlying st = some (.slice e)) (hd : P.underlying xt = some d) (hdi : ∀ k, d ≠ .int k) (hi : P.info? e = some i) (hz : i.zero = some z) (w : World)
    (base : Option Addr) (sLen sCap k : Nat) (xval : Value) (olds xs : List Value) (hk : (Builtin.lenOf xval).run P w = .ok k w) (ho : (Builtin.firstCells i.size sLen (.slice base sLen sCap)).run P w.drew = .ok olds.toArray w.drew)
    (hx : (Builtin.firstCells i.size k xval).run P w.drew = .ok xs.toArray w.drew) (hroom : sCap < sLen + k) (hb0 : 0 < i.bytes) (hfit : (sLen + k) * i.bytes ≤ 2 ^ 45) :
    (Builtin.append_ #[st, xt] ty #[.slice base sLen sCap, xval]).run P w =
      .ok (.slice (some ⟨w.heap.size, 0, none⟩) (sLen + k) (grownCap w (sLen + k) sCap e)) (w.drew.alloc (.cells (olds.toArray ++ xs.toArray ++ Builtin.zeroCells z.cells (grownCap w (sLen + k) sCap e - (sLen + k))) e)) := by
  have hm : (match d with | .int _ => true | _ => false) = false := by cases d <;> first | rfl | exact absurd rfl (hdi _)
  have hn : ¬ (sLen + k ≤ sCap) := by omega
  have hnb : ¬ i.bytes = 0 := by omega
  have hfit' : Builtin.nextslicecap (sLen + k) sCap * i.bytes ≤ 281474976710656 := growslice_fits hroom (by omega)
  have h48' : ¬ (281474976710656 < Builtin.nextslicecap (sLen + k) sCap * i.bytes) := by omega
  simp [Builtin.append_, run_underlying ht, run_underlying hd, Go.sizeOf, typeInfo, zeroValue, hi, hz, hm, hk, hn, hnb, h48', Question.forced, hx, ho, newRow, grownCap]
  congr 2
  apply Array.ext'
  simp [List.append_assoc]

theorem new_cap {ty : TypeId} {fz len cap es : Nat} {cs : List AV} {xs : List Value} (s : Sim W g m w) (hv : VRs g m.next cs xs) (rest : Array Value) (hc : len ≤ cap) (hl : cs.length = len * es) (hr : rest.size = (cap - len) * es) :
    ∃ g', Sim W g' (m.alloc (.cells ty fz cs)) (w.alloc (.cells (xs.toArray ++ rest) ty (0, 0))) ∧ VR g' (m.next + 1) (.slice m.next 0 len es) (.slice (some ⟨w.heap.size, 0, none⟩) len cap) ∧ Ext' g m.next g' (m.next + 1) := by
  have hxl := hv.length
  have h1 := s.alloc (xs.toArray ++ rest) ty fz 0 0 cs (by simp; omega) (fun _ => Nat.zero_le _) (by simp [hxl]; exact hv)
  refine ⟨_, h1, ?_, g.put_ext _ _ _⟩
  have e : (⟨w.heap.size, 0, none⟩ : Addr) = ⟨(g.put m.next w.heap.size (xs.toArray ++ rest).size).blk m.next, 0, none⟩ := by simp [Gm.put]
  rw [e]
  refine .slice _ _ _ _ _ (by omega) hc (fun _ _ => ?_)
  have e2 : cap * es = len * es + (cap - len) * es := by rw [← Nat.add_mul]; congr 1; omega
  simp [Gm.put]
  omega

theorem append_sound {st xt ty e n bytes : Nat} {sv x v : AV} {sval xval : Value} (s : Sim W g m w) (ht : P.underlying st = some (.slice e)) (hxt : ∃ d, P.underlying xt = some d ∧ ∀ k, d ≠ .int k) (he : size? P e = some n) {z0 : List AV} (hz : zeroCells? P e = some z0) (hz0 : z0.length = n)
    (hn : 0 < n) (hby : infoBytes P e = bytes) (hby0 : 0 < bytes) (hsv : VR g m.next sv sval) (hx : VR g m.next x xval) (h : append e n bytes sv x m = some (v, m')) :
    Made P W g m w (Builtin.append_ #[st, xt] ty #[sval, xval]) v m' := by
  obtain ⟨d, hd, hdi⟩ := hxt
  obtain ⟨i, zv, hi, hiz, hzv, _⟩ := zero_sound (g := g) (n := m.next) hz
  have hin : i.size = n := by unfold size? at he; rw [hi] at he; simpa using he
  have hib : i.bytes = bytes := by rw [← hby]; simp [infoBytes, Program.bytesOf, hi]
  have hzn : zv.cells.size = n := by have := hzv.length; simp at this; omega
  unfold append at h
  simp only [forceList_eq, forceNat_eq] at h
  split at h
  · cases h
  · rename_i k hk
    split at h
    · cases h
    · rename_i news hnews
      split at h
      · cases h
      · rename_i hone
        have hone : news.all AV.one = true := by simpa using hone
        obtain ⟨xs, hxl, hxv, hf1, hf2, hlen⟩ := elems_sound (P := P) s hx hnews
        have hcnt := count_sound (P := P) hx hk
        rw [← hin] at hf1 hf2
        split at h
        · -- nil
          cases hsv
          split at h
          · rename_i h0; subst h0
            simp at h; obtain ⟨rfl, rfl⟩ := h
            have := run_append_room' (ty := ty) ht hd hdi hi w none 0 0 0 xval xs (hcnt w) hf1 (by omega)
            refine ⟨.slice none 0 0, g, w, ?_, .nilslice, s, Ext'.refl _ _⟩
            rw [this]; rfl
          · rename_i h0
            split at h
            · rename_i hb
              simp at h; obtain ⟨rfl, rfl⟩ := h
              have := run_append_grow' (ty := ty) ht hd hdi hi hiz w none 0 0 k xval [] xs (hcnt w) rfl hf2 (by omega) (by omega) (by rw [hib]; simpa using hb)
              simp only [Nat.zero_add] at this
              obtain ⟨g', e1, e2, e3⟩ := new_cap s.drew (ty := e) (fz := 0) (cs := news) (xs := xs) (len := k) (cap := grownCap w k 0 e) (es := n) hxv (Builtin.zeroCells zv.cells (grownCap w k 0 e - k)) (grownCap_ge w k 0 e) (by omega) (by rw [size_zeroCells, hzn])
              refine ⟨_, g', _, this, e2, ?_, e3⟩
              have e4 : (#[] ++ xs.toArray : Array Value) = xs.toArray := by simp
              rw [e4]; exact e1
            · cases h
        · -- an empty part
          cases hsv with
          | dang a cap =>
            split at h
            · rename_i h0; subst h0
              simp at h; obtain ⟨rfl, rfl⟩ := h
              have := run_append_room' (ty := ty) ht hd hdi hi w (some a) 0 cap 0 xval xs (hcnt w) hf1 (by omega)
              have hx0 : xs = [] := by simp at hlen; subst hlen; simpa using hxl
              refine ⟨.slice (some a) 0 cap, g, w, ?_, .dang _ _, s, Ext'.refl _ _⟩
              rw [this, hx0]; simp [storeCells]
            · cases h
        · rename_i j o len es'
          cases hsv with
          | slice _ _ _ _ cap h1 h2 h3 =>
            split at h
            · rename_i h0; subst h0
              simp at h; obtain ⟨rfl, rfl⟩ := h
              have := run_append_room' (ty := ty) ht hd hdi hi w (some ⟨g.blk j, o, none⟩) len cap 0 xval xs (hcnt w) hf1 (by omega)
              have hx0 : xs = [] := by simp at hlen; subst hlen; simpa using hxl
              refine ⟨.slice (some ⟨g.blk j, o, none⟩) len cap, g, w, ?_, .slice _ _ _ _ _ h1 h2 h3, s, Ext'.refl _ _⟩
              rw [this, hx0]; simp [storeCells]
            · rename_i h0
              split at h
              · rename_i ty' fz cs hg
                split at h
                · rename_i hb
                  obtain ⟨hb1, rfl, rfl, rfl, hfz, hcl, hbb⟩ := hb
                  simp at h; obtain ⟨rfl, rfl⟩ := h
                  obtain ⟨c, lo, hi', hh, hsz, hlen', hfr, hr⟩ := s.live j _ _ _ hb1 h1 hg
                  by_cases hroom : len + k ≤ cap
                  · have hrun := run_append_room' (ty := ty) ht hd hdi hi w (some ⟨g.blk j, 0, none⟩) len cap k xval xs (hcnt w) hf1 hroom
                    rw [hin] at hrun
                    simp only [addr_add, Nat.zero_add] at hrun
                    have hcapb := h3 (by rw [s.gbase]; exact hb1) (by omega)
                    have hle : len * es' + xs.length ≤ c.size := by
                      rw [hxl, hlen]
                      have : len * es' + k * es' ≤ cap * es' := by rw [← Nat.add_mul]; exact Nat.mul_le_mul_right _ hroom
                      omega
                    have hst := run_storeCells_atF P (g.blk j) (len * es') ty' (lo, hi') xs 0 c w hh (by simp only [Nat.add_zero]; have := hfr hfz; omega) (by omega) (one_rel hxv hone)
                    simp only [Nat.add_zero] at hst
                    rw [hst] at hrun
                    have hown := s.own j hb1 h1
                    have hs1 := s.update hb1 h1 (by rw [hg]; simp) (c := (c.toList.take (len * es') ++ xs ++ c.toList.drop (len * es' + xs.length)).toArray) (ty := ty') (fz := fz) (lo := lo) (hi := hi') (cs := cs ++ news)
                      (w' := w.setRow (g.blk j) (c.toList.take (len * es') ++ xs ++ c.toList.drop (len * es' + xs.length)).toArray)
                      (s.below.trans ⟨rfl, rfl, rfl, by simp, fun q hq => setRow_other w _ _ _ (fun e => hown.1 (by rw [← e]; exact hq))⟩) (by simp) (fun b hb => setRow_other w _ _ _ hb) (setRow_heap w _ _ _ _ _ hh)
                      (by rw [← hsz]; simp; omega) (by simp; omega) (fun _ => hfr hfz) (by
                        have e1 : ((c.toList.take (len * es') ++ xs ++ c.toList.drop (len * es' + xs.length)).toArray.toList.take (cs ++ news).length) = c.toList.take cs.length ++ xs := by
                          rw [hcl]
                          have : (cs ++ news).length = (c.toList.take (len * es') ++ xs).length := by simp; omega
                          rw [this, List.take_left]
                        rw [e1]; exact hr.append hxv)
                    have hs2 := hs1.reuse (i := j) hb1 h1 (Mem.get_set_same m j _)
                    rw [Mem.set_set] at hs2
                    refine ⟨_, _, _, hrun, ?_, hs2, g.put_ext _ _ _⟩
                    have e2 : (⟨g.blk j, 0, none⟩ : Addr) = ⟨(g.put m.next (g.blk j) (g.sz j)).blk m.next, 0, none⟩ := by simp [Gm.put]
                    rw [e2]
                    refine .slice _ _ _ _ _ (by simp) hroom (fun _ _ => ?_)
                    simpa [Gm.put] using hcapb
                  · obtain ⟨ol, holl, holc, holv⟩ := s.range (i := j) (o := 0) (k := len * es') h1 (cs := cs) (by simp [Mem.cells?, hg]) (by omega)
                    have ho : (Builtin.firstCells i.size len (.slice (some ⟨g.blk j, 0, none⟩) len cap)).run P w.drew = .ok ol.toArray w.drew := by
                      have := run_loadCells_list (P := P) w.drew ⟨g.blk j, 0, none⟩ ol holc
                      rw [holl] at this
                      simp only [Builtin.firstCells, hin]; exact this
                    have hrun := run_append_grow' (ty := ty) ht hd hdi hi hiz w (some ⟨g.blk j, 0, none⟩) len cap k xval ol xs (hcnt w) ho hf2 (by omega) (by omega) (by rw [hib]; exact hbb)
                    have hcs : (cs.drop 0).take (len * es') = cs := by simp [← hcl]
                    rw [hcs] at holv
                    obtain ⟨g', e1, e2, e3⟩ := new_cap (s.kill hb1).drew (ty := ty') (fz := fz) (cs := cs ++ news) (xs := ol ++ xs) (len := len + k) (cap := grownCap w (len + k) cap ty') (es := es') (holv.append hxv)
                      (Builtin.zeroCells zv.cells (grownCap w (len + k) cap ty' - (len + k))) (grownCap_ge w _ _ ty') (by simp [hcl, hlen, Nat.add_mul]) (by rw [size_zeroCells, hzn])
                    refine ⟨_, g', _, hrun, e2, ?_, e3⟩
                    have e4 : (ol.toArray ++ xs.toArray : Array Value) = (ol ++ xs).toArray := by simp
                    rw [e4]; exact e1
                · cases h
              · cases h
        · cases h

theorem firstCells_zero (size : Nat) {x : AV} {xv : Value} {n k : Nat} (hx : VR g k x xv) (h : count x = some n) (w : World) : (Builtin.firstCells size 0 xv).run P w = .ok #[] w := by
  unfold count at h
  split at h <;> first | (cases h; done) | (cases hx; simp [Builtin.firstCells, loadCells, loadCellsFrom])

theorem copy_sound {dt xt ty e n : Nat} {d x v : AV} {dv xv : Value} (s : Sim W g m w) (ht : P.underlying dt = some (.slice e)) (he : size? P e = some n) (hd : VR g m.next d dv) (hx : VR g m.next x xv) (h : copy n d x m = some (v, m')) :
    Made P W g m w (Builtin.copy_ #[dt, xt] ty #[dv, xv]) v m' := by
  have hs := run_size (P := P) he w
  unfold copy at h
  split at h
  · rename_i k i o len es hk
    cases hd with
    | slice _ _ _ _ cap h1 h2 h3 =>
      cases hc : elems n (min k len) x m with
      | none => rw [hc] at h; cases h
      | some cs =>
        rw [hc] at h
        obtain ⟨⟨u, m1⟩, hst, hq⟩ := Option.map_eq_some_iff.1 h
        simp at hq; obtain ⟨rfl, rfl⟩ := hq
        obtain ⟨xs, hxl, hxv, hf1, _, _⟩ := elems_sound (P := P) s hx hc
        obtain ⟨b, w', hb, h4, h5, h6⟩ := storeCs_sound P s (.ptr i o h1) hxv hst
        cases hb
        refine ⟨.int .i64 (min k len : Nat), g, w', ?_, .int _ _, h5, by rw [h6]; exact Ext'.refl _ _⟩
        have e : Nat.min k len = min k len := rfl
        simp only [Builtin.copy_, List.getElem?_toArray, List.getElem?_cons_zero, List.getElem?_cons_succ, Sem.run_bind, run_underlying ht, Result.andThen_ok, count_sound (P := P) hx hk, hs, e, hf1, h4, goInt, Sem.run_pure]
  · rename_i k hk
    cases hd
    simp at h; obtain ⟨rfl, rfl⟩ := h
    refine ⟨.int .i64 0, g, w, ?_, .int _ _, s, Ext'.refl _ _⟩
    have e : Nat.min k 0 = 0 := Nat.min_zero k
    simp only [Builtin.copy_, List.getElem?_toArray, List.getElem?_cons_zero, List.getElem?_cons_succ, Sem.run_bind, run_underlying ht, Result.andThen_ok, count_sound (P := P) hx hk, hs, e, firstCells_zero (P := P) n hx hk, goInt, Sem.run_pure]
    rfl
  · rename_i k hk
    cases hd
    simp at h; obtain ⟨rfl, rfl⟩ := h
    refine ⟨.int .i64 0, g, w, ?_, .int _ _, s, Ext'.refl _ _⟩
    have e : Nat.min k 0 = 0 := Nat.min_zero k
    simp only [Builtin.copy_, List.getElem?_toArray, List.getElem?_cons_zero, List.getElem?_cons_succ, Sem.run_bind, run_underlying ht, Result.andThen_ok, count_sound (P := P) hx hk, hs, e, firstCells_zero (P := P) n hx hk, goInt, Sem.run_pure]
    rfl
  · cases h

theorem mkSlice_sound {t e n bytes : Nat} {z : List AV} {l c v : AV} {lv cv : Value} (s : Sim W g m w) (ht : P.underlying t = some (.slice e)) (he : size? P e = some n) (hz : zeroCells? P e = some z) (hby : infoBytes P e = bytes) (hby0 : 0 < bytes)
    (hl : VR g m.next l lv) (hc : VR g m.next c cv) (h : mkSlice e n bytes z l c m = some (v, m')) : Made P W g m w (Instr.makeSlice t lv cv) v m' := by
  obtain ⟨i, zv, hi, hiz, hzv, _⟩ := zero_sound (g := g) (n := m.next) hz
  have hin : i.size = n := by unfold size? at he; rw [hi] at he; simpa using he
  have hib : i.bytes = bytes := by rw [← hby]; simp [infoBytes, Program.bytesOf, hi]
  unfold mkSlice at h
  split at h
  · rename_i l c
    cases hl; cases hc
    split at h
    · rename_i hb
      obtain ⟨h0, h1, h2, h3⟩ := hb
      have hzn : zv.cells.size = n := by have := hzv.length; simp at this; omega
      have hc45 : c ≤ 2 ^ 45 := by
        have : (1 : Int) * c ≤ (bytes : Int) * c := Int.mul_le_mul_of_nonneg_right (by omega) (by omega)
        omega
      have hrun := run_make (P := P) w t e i zv ht hi hiz .i64 .i64 l c h0 h1 (by rw [hib]; omega) (by omega)
      simp [allocS_def] at h
      obtain ⟨rfl, rfl⟩ := h
      have hmade : madeCells zv.cells (c.toNat * n) = (List.replicate l.toNat zv.cells.toList).flatten.toArray ++ (List.replicate (c.toNat - l.toNat) zv.cells.toList).flatten.toArray := by
        have := madeCells_eq zv.cells c.toNat
        rw [hzn] at this
        rw [this]
        have e : c.toNat = l.toNat + (c.toNat - l.toNat) := by omega
        rw [e, ← List.replicate_append_replicate, List.flatten_append]
        simp
      rw [hin, hmade] at hrun
      obtain ⟨g', e1, e2, e3⟩ := new_cap s (ty := e) (fz := 0) (cs := (List.replicate l.toNat z).flatten) (xs := (List.replicate l.toNat zv.cells.toList).flatten) (len := l.toNat) (cap := c.toNat) (es := n) (hzv.flatten_replicate _)
        (List.replicate (c.toNat - l.toNat) zv.cells.toList).flatten.toArray (by omega) (by rw [flatten_length, h3]) (by simp only [List.size_toArray, flatten_length]; simp [hzn])
      exact ⟨_, g', _, hrun, e2, e1, e3⟩
    · simp [fail] at h
  · simp [fail] at h

theorem toBytes_sound {src dst e : Nat} {d : TypeDesc} {x v : AV} {xv : Value} (s : Sim W g m w) (hs : P.underlying src = some d) (hd : P.underlying dst = some (.slice e)) (he : P.underlying e = some (.int .u8)) (hx : VR g m.next x xv) (h : toBytes e x m = some (v, m')) :
    Made P W g m w (convert src dst xv) v m' := by
  unfold toBytes at h
  split at h
  · rename_i b
    cases hx
    simp at h; obtain ⟨rfl, rfl⟩ := h
    have hrun := Go.Lib.run_convert_string_bytes (P := P) w src dst e b hs hd he
    have hv := byteCells_rel g m.next b
    have hl : (Spl.byteCells b).length = b.size := by simp [Spl.byteCells]
    have hcap := grownCap_ge w b.size 0 e
    have hsz : (bytesCells w e b).size = grownCap w b.size 0 e := by simp [bytesCells]; omega
    have htk : (bytesCells w e b).toList.take (Spl.byteCells b).length = strCells b := by
      rw [hl]
      simp only [bytesCells, Array.toList_append, Array.toList_map, strCells]
      rw [List.take_append_of_le_length (by simp), List.take_of_length_le (by simp)]
    have h1 := s.drew.alloc (bytesCells w e b) e (b.size + 1) (bytesCells w e b).size ((bytesCells w e b).size + 1) (Spl.byteCells b) (by omega) (by omega) (by rw [htk]; exact hv)
    have hw : bytesWorld w e b = w.drew.alloc (.cells (bytesCells w e b) e ((bytesCells w e b).size, (bytesCells w e b).size + 1)) := by
      simp [bytesWorld, World.freeze, World.alloc, World.drew, -World.alloc_eq, -World.drew_eq]
      apply Array.ext
      · simp
      · intro q h2 h3
        rw [Array.getElem_modify]
        by_cases hq : w.heap.size = q
        · subst hq; simp
        · rw [if_neg hq]
          have : q < w.heap.size := by simp at h3; omega
          simp [Array.getElem_push, this]
    rw [hw] at hrun
    refine ⟨_, _, _, hrun, ?_, h1, g.put_ext _ _ _⟩
    have e2 : (⟨w.heap.size, 0, none⟩ : Addr) = ⟨(g.put m.next w.drew.heap.size (bytesCells w e b).size).blk m.next, 0, none⟩ := by simp [Gm.put]
    rw [e2]
    refine .slice _ _ _ _ _ (by simp) hcap (fun _ _ => ?_)
    simp [Gm.put, hsz]
  · cases h

theorem ofByteCells_sound : ∀ {cs : List AV} {l : List UInt8} {xs : List Value} {k : Nat}, ofByteCells cs = some l → VRs g k cs xs → ∃ ns : List Int, xs = ns.map (Value.int .u8) ∧ l = ns.map fun n => UInt8.ofNat n.toNat
  | [], l, xs, k, h, hv => by cases hv; simp [ofByteCells] at h; subst h; exact ⟨[], rfl, rfl⟩
  | c :: cs, l, xs, k, h, hv => by
    cases hv with
    | cons _ x _ xs hc hv =>
      unfold ofByteCells at h
      split at h
      · rename_i heq; cases heq
      · rename_i n rest heq
        cases heq
        obtain ⟨l', hl', rfl⟩ := Option.map_eq_some_iff.1 h
        obtain ⟨ns, rfl, rfl⟩ := ofByteCells_sound hl' hv
        cases hc
        exact ⟨n :: ns, rfl, rfl⟩
      · cases h

theorem foldl_push (ns : List Int) : ∀ s : ByteArray, ns.foldl (fun r (n : Int) => r.push (UInt8.ofNat n.toNat)) s = ⟨s.data ++ (ns.map fun n => UInt8.ofNat n.toNat).toArray⟩ := by
  induction ns with
  | nil => intro s; simp
  | cons n ns ih =>
    intro s
    rw [List.foldl_cons, ih]
    apply ByteArray.ext
    simp [ByteArray.push]

theorem ofBytes_sound {src dst e : Nat} {x v : AV} {xv : Value} (s : Sim W g m w) (hs : P.underlying src = some (.slice e)) (hd : P.underlying dst = some .string) (he : P.underlying e = some (.int .u8)) (hx : VR g m.next x xv) (h : ofBytes x m = some (v, m')) :
    Made P W g m w (convert src dst xv) v m' := by
  unfold ofBytes at h
  split at h
  · rename_i n hn
    cases hc : elems 1 n x m with
    | none => rw [hc] at h; cases h
    | some cs =>
      rw [hc] at h
      obtain ⟨l, hl, hq⟩ := Option.map_eq_some_iff.1 h
      simp at hq; obtain ⟨rfl, rfl⟩ := hq
      obtain ⟨xs, hxl, hxv, hf1, _, hlen⟩ := elems_sound (P := P) s hx hc
      obtain ⟨ns, rfl, rfl⟩ := ofByteCells_sound hl hxv
      refine ⟨.string ⟨(ns.map fun n => UInt8.ofNat n.toNat).toArray⟩, g, w, ?_, .str _, s, Ext'.refl _ _⟩
      cases hx with
      | nilslice =>
        rw [run_convert_bytes_string w src dst e _ _ _ hs he hd]
        simp [countS] at hn; subst hn
        have : ns = [] := by simp at hlen; subst hlen; simpa using hxl
        subst this
        rfl
      | dang a cap =>
        rw [run_convert_bytes_string w src dst e _ _ _ hs he hd]
        simp [countS] at hn; subst hn
        have : ns = [] := by simp at hlen; subst hlen; simpa using hxl
        subst this
        have := run_bytesToString (P := P) w a 0 cap [] (by simp [loadCells, loadCellsFrom])
        rw [this]; rfl
      | slice i o len es cap h1 h2 h3 =>
        rw [run_convert_bytes_string w src dst e _ _ _ hs he hd]
        simp [countS] at hn; subst hn
        have := run_bytesToString (P := P) w ⟨g.blk i, o, none⟩ len cap ns (by simpa [Builtin.firstCells] using hf1)
        rw [this, foldl_push]
        simp
      | _ => simp [countS] at hn
  · cases h

theorem sliceData_sound {ts : Array TypeId} {ty e : Nat} {x v : AV} {xv : Value} (s : Sim W g m w) (ht : P.underlying ty = some (.pointer e)) (hx : VR g m.next x xv) (h : sliceData x m = some (v, m')) :
    Made P W g m w (Builtin.unsafeSliceData_ ts ty #[xv]) v m' := by
  unfold sliceData at h
  split at h
  · cases hx; cases h
    exact ⟨_, g, w, run_unsafeSliceData_nil w ts ty 0 0, .nilptr, s, Ext'.refl _ _⟩
  · rename_i i o len es
    cases hx with
    | slice _ _ _ _ cap h1 h2 h3 =>
      split at h
      · cases h
        exact ⟨_, g, w, run_unsafeSliceData_row w ts ty _ len cap (by omega), .ptr _ _ h1, s, Ext'.refl _ _⟩
      · obtain ⟨cs, hcs, hq⟩ := Option.map_eq_some_iff.1 h
        cases hq
        by_cases hc : cap = 0
        · subst hc
          obtain ⟨c, e', f, h4, _, _⟩ := s.cells h1 hcs
          have := run_unsafeSliceData_zero (P := P) w ts ty e ht ⟨g.blk i, o, none⟩ len (e', c.size) (by simp [World.shape?, h4])
          exact ⟨_, g, _, this, .anyptr _, s.allocOther _, Ext'.refl _ _⟩
        · exact ⟨_, g, w, run_unsafeSliceData_row w ts ty _ len cap hc, .anyptr _, s, Ext'.refl _ _⟩
  · cases h

theorem freeze_eq (w : World) (b k : Nat) {c : Array Value} {t lo hi : Nat} (h : w.heap[b]? = some (.cells c t (lo, hi))) (hk : 0 < k) :
    (w.freeze ⟨b, 0, none⟩ k).heap[b]? = some (.cells c t (if lo == hi then (0, k) else (0, max hi k))) := by
  have hk' : k ≠ 0 := by omega
  simp only [World.freeze, hk', if_false, Array.getElem?_modify, if_true, h, Option.map_some]
  by_cases e : lo = hi
  · simp [e]
  · simp [e]
theorem freeze_other (w : World) (b k q : Nat) (h : q ≠ b) : (w.freeze ⟨b, 0, none⟩ k).heap[q]? = w.heap[q]? := by
  unfold World.freeze
  split
  · rfl
  · simp [Array.getElem?_modify, Ne.symm h]
theorem freeze_size (w : World) (b k : Nat) : (w.freeze ⟨b, 0, none⟩ k).heap.size = w.heap.size := by
  unfold World.freeze
  split <;> simp

theorem run_loadBytes' (w : World) : ∀ (ns : List Int) (a : Addr) (acc : ByteArray), (∀ j v, (ns.map (Value.int .u8))[j]? = some v → w.cell? (a.add j) = some v) →
    (loadBytes a acc ns.length).run P w = .ok ⟨acc.data ++ (ns.map fun n => UInt8.ofNat n.toNat).toArray⟩ w
  | [], a, acc, _ => by simp [loadBytes]
  | x :: l, a, acc, h => by
    have h0 : w.cell? a = some (.int .u8 x) := by
      have := h 0 _ rfl
      simpa [Addr.add] using this
    have ih := run_loadBytes' w l (a.add 1) (acc.push x.toNat.toUInt8) (fun j y hy => by
      have := h (j + 1) y (by simpa using hy)
      have e : (a.add 1).add j = a.add (j + 1) := by
        unfold Addr.add
        by_cases hj : j = 0
        · subst hj; simp
        · simp [hj]; omega
      rw [e]; exact this)
    simp only [List.length_cons, loadBytes, Sem.run_bind, run_load, h0, Result.andThen]
    rw [ih]
    congr 1
    apply ByteArray.ext
    simp [ByteArray.push]

theorem run_unsafeString_row' (w : World) (pt it ty e : TypeId) (hp : P.underlying pt = some (.pointer e)) (hc : P.cellsOf e = 1) (g cells : Nat) (hsh : w.shape? g = some (e, cells)) (ns : List Int) (h0 : ns ≠ []) (hn : ns.length ≤ cells) (h63 : ns.length ≤ 9223372036854775807)
    (hcell : ∀ j v, (ns.map (Value.int .u8))[j]? = some v → w.cell? ((⟨g, 0, none⟩ : Addr).add j) = some v) :
    (Builtin.unsafeString_ #[pt, it] ty #[.pointer (some ⟨g, 0, none⟩), .int .i64 ns.length]).run P w = .ok (.string ⟨(ns.map fun n => UInt8.ofNat n.toNat).toArray⟩) (w.freeze ⟨g, 0, none⟩ ns.length) := by
  have hl : ns.length ≠ 0 := by simpa using h0
  have hlb := run_loadBytes' (P := P) w ns ⟨g, 0, none⟩ .empty hcell
  have hlies := liesAt_bytes (P := P) hc (cells / P.cellsOf e) ns.length (by rw [hc]; simpa using hn)
  have h63' : ¬ (9223372036854775807 : Int) < (ns.length : Int) := by omega
  have hdef : Builtin.unsafeString_ #[pt, it] ty #[.pointer (some ⟨g, 0, none⟩), .int .i64 ns.length] =
      (do
        let n ← asInt (.int .i64 ns.length)
        if n < 0 then runtimePanic (.error "unsafe.String: len out of range")
        if n > IntKind.i64.max then unsupported (.unsafePointer "String: a length above the largest int")
        if n = 0 then pure (.string .empty)
        else if ← variablesAt ⟨g, 0, none⟩ (← elemOf pt) n.toNat then do
          let s ← loadBytes ⟨g, 0, none⟩ .empty n.toNat
          freeze ⟨g, 0, none⟩ n.toNat
          pure (.string s)
        else unsupported (.unsafePointer "String: not so many bytes at ptr")) := rfl
  rw [hdef]
  have hmax : IntKind.i64.max = 9223372036854775807 := rfl
  have hneg : ¬ (ns.length : Int) < 0 := by omega
  simp [asInt, asIntOf, hmax, h63', hneg, hl, variablesAt, hsh, elemOf, run_underlying hp, hlies, hlb]

theorem unsafeStr_sound {pt it ty e : Nat} {p n v : AV} {pv nv : Value} (s : Sim W g m w) (ht : P.underlying pt = some (.pointer e)) (he : size? P e = some 1) (hp : VR g m.next p pv) (hn : VR g m.next n nv) (h : unsafeStr e p n m = some (v, m')) :
    Made P W g m w (Builtin.unsafeString_ #[pt, it] ty #[pv, nv]) v m' := by
  unfold unsafeStr at h
  split at h
  · cases hp; cases hn
    split at h
    · rename_i h0; subst h0; cases h
      exact ⟨_, g, w, run_unsafeString_none w pt it ty none, .str _, s, Ext'.refl _ _⟩
    · cases h
  · cases hp; cases hn
    split at h
    · rename_i h0; subst h0; cases h
      exact ⟨_, g, w, run_unsafeString_none w pt it ty _, .str _, s, Ext'.refl _ _⟩
    · cases h
  · rename_i i o k
    cases hp with
    | ptr _ _ h1 =>
      cases hn
      split at h
      · rename_i h0; subst h0; cases h
        exact ⟨_, g, w, run_unsafeString_none w pt it ty _, .str _, s, Ext'.refl _ _⟩
      · rename_i hk0
        split at h
        · rename_i ty' fz cs hg
          split at h
          · rename_i hb
            obtain ⟨hb1, rfl, hfz, hk1, hk2, rfl, hk3⟩ := hb
            obtain ⟨l, hl, hq⟩ := Option.map_eq_some_iff.1 h
            cases hq
            obtain ⟨c, lo, hi, hh, hsz, hlen, hfr, hr⟩ := s.live i _ _ _ hb1 h1 hg
            obtain ⟨xs, hxl, hcell, hv⟩ := s.range (i := i) (o := 0) (k := k.toNat) h1 (cs := cs) (by simp [Mem.cells?, hg]) (by omega)
            obtain ⟨ns, rfl, rfl⟩ := ofByteCells_sound hl (by simpa using hv)
            have hnl : ns.length = k.toNat := by simpa using hxl
            have hck : k = (ns.length : Int) := by omega
            have hcells : P.cellsOf ty' = 1 := by unfold size? at he; simp [Program.cellsOf, he]
            have hmax : IntKind.i64.max = 9223372036854775807 := rfl
            have hrun := run_unsafeString_row' (P := P) w pt it ty ty' ht hcells (g.blk i) c.size (by simp [World.shape?, hh]) ns (by intro e; subst e; simp at hnl; omega) (by omega) (by rw [hmax] at hk2; omega) hcell
            rw [← hck] at hrun
            have hown := s.own i hb1 h1
            have hkk : 0 < ns.length := by omega
            refine ⟨_, g, _, hrun, .str _, ?_, Ext'.refl _ _⟩
            have hnew := freeze_eq w (g.blk i) ns.length hh hkk
            have hb : Keeps W (w.freeze ⟨g.blk i, 0, none⟩ ns.length) := have hf0 : Below 0 w (w.freeze ⟨g.blk i, 0, none⟩ ns.length) := below_freeze (Below.refl 0 w) (Nat.zero_le _) _
              s.below.trans ⟨hf0.os, hf0.tape, hf0.output, by rw [freeze_size]; exact Nat.le_refl _, fun q hq => freeze_other _ _ _ _ (fun e => hown.1 (by rw [← e]; exact hq))⟩
            by_cases e : lo = hi
            · rw [if_pos (by simp [e])] at hnew
              refine s.update hb1 h1 (by rw [hg]; simp) hb (freeze_size _ _ _) (fun b hb => freeze_other _ _ _ _ hb) hnew hsz hlen (fun _ => by omega) hr
            · rw [if_neg (by simp [e])] at hnew
              refine s.update hb1 h1 (by rw [hg]; simp) hb (freeze_size _ _ _) (fun b hb => freeze_other _ _ _ _ hb) hnew hsz hlen (fun _ => by have := hfr hfz; omega) hr
          · cases h
        · cases h
  · cases h

theorem rowAt_mono {P : Program} {fits : TypeId → Bool} {d e count count' off n : Nat} (h : rowAt P fits d e count off n = true) (hc : count ≤ count') : rowAt P fits d e count' off n = true := by
  cases d with
  | zero => simp [rowAt] at h
  | succ d =>
    by_cases hs : P.cellsOf e = 0
    · simp only [rowAt, hs, if_true] at h; cases h
    · simp only [rowAt, hs, if_false, Bool.or_eq_true, Bool.and_eq_true, decide_eq_true_eq, beq_iff_eq] at h ⊢
      rcases h with ⟨⟨h1, h2⟩, h3⟩ | ⟨h1, h2⟩
      · exact .inl ⟨⟨h1, by omega⟩, h3⟩
      · exact .inr ⟨by omega, h2⟩

theorem toUnsafe_sound {src dst t : Nat} {x v : AV} {xv : Value} (s : Sim W g m w) (hs : P.underlying src = some (.pointer t)) (hd : P.underlying dst = some .unsafePointer) (ht : (size? P t).getD 0 ≠ 0) (hx : VR g m.next x xv) (h : toUnsafe x m = some (v, m')) :
    Made P W g m w (convert src dst xv) v m' := by
  unfold toUnsafe at h
  split at h
  · rename_i i o
    cases hx with
    | ptr _ _ hi =>
      split at h
      · rename_i cs hc
        split at h
        · rename_i ho
          cases h
          obtain ⟨c, e, f, h1, h2, h3⟩ := s.cells hi hc
          obtain ⟨j, hj, hj0⟩ : ∃ j, P.info? t = some j ∧ j.size ≠ 0 := by
            unfold size? at ht
            cases hz : P.info? t with
            | none => simp [hz] at ht
            | some j => simp [hz] at ht; exact ⟨j, rfl, ht⟩
          exact ⟨_, g, w, run_to_unsafe (e := e) (cells := c.size) w ⟨g.blk i, o, none⟩ hs hd hj hj0 (by simp [World.shape?, h1]) (by simp only; omega), .ptr _ _ hi, s, Ext'.refl _ _⟩
        · cases h
      · cases h
  · cases h

theorem fromUnsafe_sound {src dst u : Nat} {x v : AV} {xv : Value} (s : Sim W g m w) (hs : P.underlying src = some .unsafePointer) (hd : P.underlying dst = some (.pointer u)) (hu : (size? P u).isSome = true) (hx : VR g m.next x xv)
    (h : fromUnsafe P.cellsOf (fun ty o => rowAt P (sameLayout P P.depth · u) P.depth ty 1 o 1) x m = some (v, m')) : Made P W g m w (convert src dst xv) v m' := by
  unfold fromUnsafe at h
  split at h
  · rename_i i o
    cases hx with
    | ptr _ _ hi =>
      split at h
      · rename_i ty fz cs hg
        split at h
        · rename_i hb
          cases h
          obtain ⟨c, lo, hi', h1, h2, h3, _, _⟩ := s.live i _ _ _ hb.1 hi hg
          obtain ⟨j, hj⟩ : ∃ j, P.info? u = some j := by
            unfold size? at hu
            cases hz : P.info? u with
            | none => simp [hz] at hu
            | some j => exact ⟨j, rfl⟩
          have hcount : 1 ≤ c.size / P.cellsOf ty := (Nat.le_div_iff_mul_le hb.2.1).2 (by omega)
          have hl : liesAt P P.depth ty (c.size / P.cellsOf ty) o u 1 = true := by
            have hdp : P.depth = (2 * (P.types.size + Made.depth) + 1) + 1 := rfl
            have := rowAt_mono hb.2.2.2 hcount
            rw [hdp] at this ⊢
            unfold liesAt
            rw [hdp, this]
            rfl
          exact ⟨_, g, w, run_from_unsafe w ⟨g.blk i, o, none⟩ hs hd hj (cells := c.size) (e := ty) (by simp [World.shape?, h1]) hl, .ptr _ _ hi, s, Ext'.refl _ _⟩
        · cases h
      · cases h
  · cases h

end Go.Proofs.YtooogfnmhfocjaaDoor.Spl

/- The abstract machine, 7b: operations on maps, and on strings that are gone over. -/
namespace Go.Proofs.YtooogfnmhfocjaaDoor.Spl
open Go Go.RowKit Go.MapKept
set_option linter.unusedVariables false
set_option linter.unusedSimpArgs false

variable {P : Program} {W : Ref} {g : Gm} {m m' : Mem} {w : World}

theorem key_rel {n : Nat} {a : AV} {x v : Value} (h : VR g n a x) (hk : a.key? = some v) : x = v := by
  cases h <;> simp_all [AV.key?]
theorem back_rel {n : Nat} {a : AV} {v : Value} (h : backKey v = some a) : VR g n a v := by
  cases v <;> simp [backKey] at h <;> subst h <;> constructor
theorem isKey_of {d : TypeDesc} {k : Value} (h : isKey (some d) k = true) : IsKey d k := by
  cases d <;> cases k <;> simp_all [isKey, IsKey]
theorem mapFind_some {kt : TypeId} {k : Value} {es : List MapEntry} {r : Option (Nat × Value)} (h : mapFind P kt k es = some r) : ∃ d, P.underlying kt = some d ∧ IsKey d k ∧ Instr.findNow d k es 0 = some r := by
  unfold mapFind at h
  split at h
  · rename_i d hd
    split at h
    · rename_i hk
      exact ⟨d, hd, isKey_of hk, h⟩
    · cases h
  · cases h
theorem run_getRaw {b : Nat} {o : Obj} (h : w.heap[b]? = some o) (hc : ∀ c e f, o ≠ .cells c e f) : (getObj b).run P w = .ok o w := by
  cases o <;> first | (simp [getObj, Sem.run, h]; done) | exact absurd rfl (hc _ _ _)
theorem run_setRaw {b : Nat} {o : Obj} (o' : Obj) (h : w.heap[b]? = some o) (hc : ∀ c e f, o ≠ .cells c e f) : (setObj b o').run P w = .ok () { w with heap := w.heap.setIfInBounds b o' } := by
  cases o <;> first | (simp [setObj, Sem.run, h]; done) | exact absurd rfl (hc _ _ _)

theorem newMap_sound (P : Program) {t : TypeId} {v : AV} (s : Sim W g m w) (h : newMap m = some (v, m')) : Made P W g m w (Instr.makeMap t none) v m' := by
  simp only [newMap, Option.some.injEq, Prod.mk.injEq] at h
  obtain ⟨rfl, rfl⟩ := h
  refine ⟨.map (some w.heap.size), g.put m.next w.heap.size 0, w.alloc (.map #[] 0), ?_, ?_, s.allocRaw _, g.put_ext _ _ _⟩
  · simp [Instr.makeMap]
  · have : VR (g.put m.next w.heap.size 0) (m.next + 1) (.mp m.next) (.map (some ((g.put m.next w.heap.size 0).blk m.next))) := .mp _ (Nat.lt_succ_self _)
    simpa [Gm.put] using this

theorem mapGet_sound {t kt et : TypeId} {zv : Value} {ok : Bool} {x k v : AV} {xv kv : Value} (s : Sim W g m w) (ht : P.underlying t = some (.map kt et)) (hz : (P.info? et).bind (·.zero) = some zv) (hx : VR g m.next x xv) (hk : VR g m.next k kv)
    (h : mapGet P kt (Value.av zv) ok x k m = some (v, m')) : Made P W g m w (Instr.lookup t xv kv ok) v m' := by
  unfold mapGet at h
  split at h
  · rename_i i kv' hkv
    obtain rfl := key_rel hk hkv
    cases hx with
    | mp _ hi =>
      split at h
      · rename_i es ck hg
        split at h
        · rename_i hb
          have hh := s.raw i _ hb hi hg
          have hget : (getObj (g.blk i)).run P w = .ok (.map es ck) w := run_getRaw hh (fun _ _ _ h => by cases h)
          obtain ⟨inf, hinf, hzero⟩ : ∃ inf, P.info? et = some inf ∧ inf.zero = some zv := by
            cases hi' : P.info? et with
            | none => rw [hi'] at hz; cases hz
            | some inf => rw [hi'] at hz; exact ⟨inf, rfl, hz⟩
          have hzr : (zeroValue et).run P w = .ok zv w := by simp [zeroValue, run_typeInfo w hinf, hzero]
          split at h
          · rename_i j val hf
            obtain ⟨d, hd, hkd, hfn⟩ := mapFind_some hf
            obtain ⟨a, ha, hq⟩ := Option.map_eq_some_iff.1 h
            cases hq
            refine ⟨if ok then .tuple #[val, .bool true] else val, g, w, ?_, ?_, s, Ext'.refl _ _⟩
            · simp [Instr.lookup, run_underlying ht, hget, run_checkKey hd hkd _ 9999, run_findKey hd hfn]
            · cases ok with
              | true => exact .tup _ _ (.cons _ _ _ _ (back_rel ha) (.cons _ _ _ _ (.bool _) .nil))
              | false => exact back_rel ha
          · rename_i hf
            obtain ⟨d, hd, hkd, hfn⟩ := mapFind_some hf
            simp only [Option.some.injEq, Prod.mk.injEq] at h
            obtain ⟨rfl, rfl⟩ := h
            refine ⟨if ok then .tuple #[zv, .bool false] else zv, g, w, ?_, ?_, s, Ext'.refl _ _⟩
            · simp [Instr.lookup, run_underlying ht, hget, run_checkKey hd hkd _ 9999, run_findKey hd hfn, hzr]
            · cases ok with
              | true => exact .tup _ _ (.cons _ _ _ _ (VR.av _ _ _) (.cons _ _ _ _ (.bool _) .nil))
              | false => exact VR.av _ _ _
          · cases h
        · cases h
      · cases h
  · cases h

theorem mapPut_sound {t kt et : TypeId} {x k y u : AV} {xv kv yv : Value} (s : Sim W g m w) (ht : P.underlying t = some (.map kt et)) (hx : VR g m.next x xv) (hk : VR g m.next k kv) (hy : VR g m.next y yv)
    (h : mapPut P kt x k y m = some (u, m')) : ∃ w', (Instr.mapUpdate t xv kv yv).run P w = .ok () w' ∧ Sim W g m' w' ∧ m'.next = m.next ∧ u = .undef := by
  unfold mapPut at h
  split at h
  · rename_i i kv' vv' hkv hvv
    obtain rfl := key_rel hk hkv
    obtain rfl := key_rel hy hvv
    cases hx with
    | mp _ hi =>
      split at h
      · rename_i es ck hg
        split at h
        · rename_i hb
          have hh := s.raw i _ hb hi hg
          have hget : (getObj (g.blk i)).run P w = .ok (.map es ck) w := run_getRaw hh (fun _ _ _ h => by cases h)
          split at h
          · rename_i j val hf
            obtain ⟨d, hd, hkd, hfn⟩ := mapFind_some hf
            split at h
            · rename_i hsb
              simp only [Option.some.injEq, Prod.mk.injEq] at h
              obtain ⟨rfl, rfl⟩ := h
              refine ⟨_, ?_, s.setRaw _ hb hi hg, rfl, rfl⟩
              simp only [Instr.mapUpdate, Sem.run_bind, run_underlying ht, Result.andThen_ok, hget, run_checkKey hd hkd false 9999, run_findKey hd hfn, Instr.keyThatStays, hsb, if_true, Sem.run_pure]
              exact run_setRaw _ hh (fun _ _ _ h => by cases h)
            · cases h
          · rename_i hf
            obtain ⟨d, hd, hkd, hfn⟩ := mapFind_some hf
            simp only [Option.some.injEq, Prod.mk.injEq] at h
            obtain ⟨rfl, rfl⟩ := h
            refine ⟨_, ?_, s.setRaw _ hb hi hg, rfl, rfl⟩
            simp only [Instr.mapUpdate, Sem.run_bind, run_underlying ht, Result.andThen_ok, hget, run_checkKey hd hkd false 9999, run_findKey hd hfn]
            exact run_setRaw _ hh (fun _ _ _ h => by cases h)
          · cases h
        · cases h
      · cases h
  · cases h

theorem rangeStr_sound {t : TypeId} {x v : AV} {xv : Value} (s : Sim W g m w) (ht : P.underlying t = some .string) (hx : VR g m.next x xv) (h : rangeStr x m = some (v, m')) : Made P W g m w (Instr.range t xv) v m' := by
  unfold rangeStr at h
  split at h
  · rename_i str
    cases hx
    simp only [Option.some.injEq, Prod.mk.injEq] at h
    obtain ⟨rfl, rfl⟩ := h
    refine ⟨.pointer (some ⟨w.heap.size, 0, none⟩), g.put m.next w.heap.size 0, w.alloc (.stringIter str 0), ?_, ?_, s.allocRaw _, g.put_ext _ _ _⟩
    · simp [Instr.range, run_underlying ht]
    · have : VR (g.put m.next w.heap.size 0) (m.next + 1) (.ptr m.next 0) (.pointer (some ⟨(g.put m.next w.heap.size 0).blk m.next, 0, none⟩)) := .ptr _ _ (Nat.lt_succ_self _)
      simpa [Gm.put] using this
  · cases h

theorem nextStr_sound (P : Program) {ty : TypeId} {x v : AV} {xv : Value} (s : Sim W g m w) (hx : VR g m.next x xv) (h : nextStr x m = some (v, m')) : Made P W g m w (Instr.next xv true ty) v m' := by
  unfold nextStr at h
  split at h
  · rename_i i o
    cases hx with
    | ptr _ _ hi =>
      split at h
      · rename_i str pos hg
        split at h
        · rename_i hb
          obtain ⟨hb, rfl⟩ := hb
          have hh := s.raw i _ hb hi hg
          have hget : (getObj (g.blk i)).run P w = .ok (.stringIter str pos) w := run_getRaw hh (fun _ _ _ h => by cases h)
          split at h
          · rename_i hp
            simp only [Option.some.injEq, Prod.mk.injEq] at h
            obtain ⟨rfl, rfl⟩ := h
            have hset : (setObj (g.blk i) (.stringIter str (pos + (Utf8.decode str pos).2))).run P w = .ok () { w with heap := w.heap.setIfInBounds (g.blk i) (.stringIter str (pos + (Utf8.decode str pos).2)) } := run_setRaw _ hh (fun _ _ _ h => by cases h)
            refine ⟨.tuple #[.bool true, goInt pos, .int .i32 (Utf8.decode str pos).1], g, _, ?_, .tup _ _ (.cons _ _ _ _ (.bool _) (.cons _ _ _ _ (.int _ _) (.cons _ _ _ _ (.int _ _) .nil))), s.setRaw _ hb hi hg, Ext'.refl _ _⟩
            simp [Instr.next, hget, hp, hset]
          · rename_i hp
            simp only [Option.some.injEq, Prod.mk.injEq] at h
            obtain ⟨rfl, rfl⟩ := h
            refine ⟨.tuple #[.bool false], g, w, ?_, .tup _ _ (.cons _ _ _ _ (.bool _) .nil), s, Ext'.refl _ _⟩
            simp [Instr.next, hget, hp]
        · cases h
      · cases h
  · cases h
end Go.Proofs.YtooogfnmhfocjaaDoor.Spl

/- The abstract machine, 8: an operation of a region. -/
namespace Go.Proofs.YtooogfnmhfocjaaDoor.Spl
open Go Go.RowKit Go.Lib
set_option linter.unusedVariables false
set_option linter.unusedSimpArgs false

variable {P : Program} {W : Ref}

/-- What is told of calls. -/
def CallOk (P : Program) (W : Ref) (call : Nat → List AV → M AV) : Prop :=
  ∀ f args v m m1, call f args m = some (v, m1) → ∀ g w xs, Sim W g m w → VRs g m.next args xs →
    ((∃ fn, P.funcs[f]? = some fn ∧ fn.body.isSome = true ∧ fn.name ≠ "runtime.NumGoroutine") ∧ Calls P f xs.toArray w fun e w' => ∃ z g', e = .returned z ∧ VR g' m1.next v z ∧ Sim W g' m1 w' ∧ Ext' g m.next g' m1.next) ∨
    ∃ z g' w', (callFunc f xs.toArray).run P w = .ok (.value z) w' ∧ VR g' m1.next v z ∧ Sim W g' m1 w' ∧ Ext' g m.next g' m1.next

/-- The way on. -/
def Goes {ρ : Type} (W : Ref) (g : Gm) (m : Mem) (k : AV → M ρ) (r : ρ × Mem) (o : Oper) (a : Act) (next : Act → World → Prop) : Prop :=
  ∀ v z g' m' w', VR g' m'.next v z → Sim W g' m' w' → Ext' g m.next g' m'.next → k v m' = some r → next (a.put o.dst z) w'

variable {ρ : Type} {g : Gm} {m : Mem} {w : World} {k : AV → M ρ} {r : ρ × Mem} {o : Oper} {a : Act} {next : Act → World → Prop} {Q : Exit → Act → World → Prop}

theorem lp_some {α β : Type} {x : Option α} {k : α → M β} {m : Mem} {r : β × Mem} (h : lp x k m = some r) : ∃ v, x = some v ∧ k v m = some r := by
  unfold lp at h
  split at h
  · rename_i v; exact ⟨v, rfl, h⟩
  · cases h
theorem bnd_some {α β : Type} {x : M α} {k : α → M β} {m : Mem} {r : β × Mem} (h : bnd x k m = some r) : ∃ v m1, x m = some (v, m1) ∧ k v m1 = some r := by
  unfold bnd at h
  split at h
  · rename_i v m1 e; exact ⟨v, m1, e, h⟩
  · cases h

/-- An operation that comes to a value. -/
theorem val_wp {z : Value} {w' : World} (h : (execOp a.eval o).run P w = .ok (.value z) w') (hn : next (a.put o.dst z) w') : o.wp P a w next Q := by
  unfold Oper.wp; rw [h]; exact hn
theorem skip_wp {w' : World} (h : (execOp a.eval o).run P w = .ok .skip w') (hn : next (a.put o.dst Go.undef) w') : o.wp P a w next Q := by
  unfold Oper.wp; rw [h]; exact hn
theorem val_run {x : Sem Value} {z : Value} {w' : World} (h : x.run P w = .ok z w') : (do pure (Next.value (← x)) : Sem Next).run P w = .ok (.value z) w' := by
  simp [h]

theorem pure_wp (s : Sim W g m w) (hg : Goes W g m k r o a next) {x : Sem Value} (he : execOp a.eval o = (do pure (.value (← x)))) {v : AV} (hz : ∃ z, x.run P w = .ok z w ∧ VR g m.next v z) (hk : k v m = some r) : o.wp P a w next Q := by
  obtain ⟨z, h1, h2⟩ := hz
  exact val_wp (by rw [he]; exact val_run h1) (hg v z g m w h2 s (Ext'.refl _ _) hk)
theorem made_wp (hg : Goes W g m k r o a next) {x : Sem Value} (he : execOp a.eval o = (do pure (.value (← x)))) {v : AV} {m1 : Mem} (hz : Made P W g m w x v m1) (hk : k v m1 = some r) : o.wp P a w next Q := by
  obtain ⟨z, g', w', h1, h2, h3, h4⟩ := hz
  exact val_wp (by rw [he]; exact val_run h1) (hg v z g' m1 w' h2 h3 h4 hk)

theorem evs_rel {t : TM} (hρ : ∀ x, VR g m.next (t.ev x) (a.eval x)) (xs : List Operand) : VRs g m.next (t.evs xs) (xs.map a.eval) := VRs.ofFn _ _ hρ xs

theorem parts_rel {t : TM} (hρ : ∀ x, VR g m.next (t.ev x) (a.eval x)) (parts : Array (Nat × Operand)) :
    (parts.toList.map fun (i, x) => (i, t.ev x)).length = (parts.map fun (i, x) => (i, a.eval x)).size ∧
    ∀ (j : Nat) p q, (parts.toList.map fun (i, x) => (i, t.ev x))[j]? = some p → (parts.map fun (i, x) => (i, a.eval x)).toList[j]? = some q → p.1 = q.1 ∧ VR g m.next p.2 q.2 := by
  refine ⟨by simp, fun j p q h1 h2 => ?_⟩
  simp only [Array.toList_map, List.getElem?_map] at h1 h2
  cases hj : parts.toList[j]? with
  | none => rw [hj] at h1; cases h1
  | some e =>
    rw [hj] at h1 h2
    simp at h1 h2
    subst h1; subst h2
    exact ⟨rfl, hρ _⟩

theorem orel {t : TM} (hρ : ∀ x, VR g m.next (t.ev x) (a.eval x)) (x : Option Operand) : ORel g m.next (x.map t.ev) (x.map a.eval) := by
  cases x with
  | none => trivial
  | some x => exact hρ x

/-- A call. -/
theorem callee_wp {call : Nat → List AV → M AV} (hcall : CallOk P W call) (s : Sim W g m w) (hg : Goes W g m k r o a next) {t : TM} (hρ : ∀ x, VR g m.next (t.ev x) (a.eval x)) {f : Operand} {args : Array Operand} {ats : Array TypeId}
    (ho : o.op = .call { callee := .value f, args := args, argTypes := ats }) (h : callee call (t.ev f) (t.evs args.toList) k m = some r) : o.wp P a w next Q := by
  have hf := hρ f
  generalize t.ev f = fav at h hf
  unfold callee at h
  split at h
  · rename_i i first captured
    generalize hv : a.eval f = fv at hf
    cases hf with
    | func _ _ _ x y h1 h2 =>
      obtain ⟨v, m1, hc, hk⟩ := bnd_some h
      have hargs := (h1.append (evs_rel hρ args.toList)).append h2
      have hexec : execOp a.eval o = callFunc i (x ++ args.toList.map a.eval ++ y).toArray := by
        unfold execOp
        rw [ho]
        simp only [resolve, hv, Deferred.ofValue, pure_bind, invoke]
        congr 1
        apply Array.ext'
        simp
      rcases hcall _ _ _ _ _ hc g w _ s hargs with ⟨⟨fn, hfn, hb, hname⟩, hcalls⟩ | ⟨z, g', w', e0, e1, e2, e3⟩
      · have hrun : (execOp a.eval o).run P w = .ok (.enter i (x ++ args.toList.map a.eval ++ y).toArray) w := by
          have hb' : fn.body.isNone = false := by cases hbb : fn.body <;> simp_all
          rw [hexec]
          simp only [callFunc, Sem.run_bind, run_program, Result.andThen_ok, hfn]
          rw [if_neg (by simpa using hname), if_neg (by simp [hb'])]
          simp
        unfold Oper.wp
        rw [hrun, Oper.upon_enter]
        refine hcalls.mono fun e w' he => ?_
        obtain ⟨z, g', rfl, e1, e2, e3⟩ := he
        exact hg v z g' m1 w' e1 e2 e3 hk
      · exact val_wp (by rw [hexec]; exact e0) (hg v z g' m1 w' e1 e2 e3 hk)
  · cases h

/-- A built-in. -/
theorem builtin_wp (s : Sim W g m w) (hg : Goes W g m k r o a next) {t : TM} (hρ : ∀ x, VR g m.next (t.ev x) (a.eval x)) {b : Builtin} {args : Array Operand} {ats : Array TypeId}
    (ho : o.op = .call { callee := .builtin b, args := args, argTypes := ats }) (h : aBuiltin P b ats.toList o.type (t.evs args.toList) k m = some r) : o.wp P a w next Q := by
  have hx := evs_rel hρ args.toList
  have hexec : ∃ cs, execOp a.eval o = builtin b ats o.type cs (args.map a.eval) := by
    refine ⟨args.map fun | .const _ => true | _ => false, ?_⟩
    unfold execOp; rw [ho]; rfl
  obtain ⟨cs, hexec⟩ := hexec
  have ea : args.map a.eval = (args.toList.map a.eval).toArray := by apply Array.ext'; simp
  have et : ats = ats.toList.toArray := by simp
  generalize t.evs args.toList = avs at h hx
  generalize args.toList.map a.eval = xvs at hx ea
  generalize hts : ats.toList = ts at h et
  rw [ea, et] at hexec
  unfold aBuiltin at h
  split at h
  · -- len
    rename_i t0 x
    cases hx with
    | cons _ xv _ _ hx0 hx1 =>
      cases hx1
      generalize hu : P.underlying t0 = ud at h
      split at h
      · obtain ⟨v, hv, hk⟩ := lp_some h
        exact pure_wp s hg (x := Builtin.len_ #[t0] o.type #[xv]) hexec (aLenStr_sound w hu hx0 hv) hk
      · rename_i e
        obtain ⟨v, hv, hk⟩ := lp_some h
        exact pure_wp s hg (x := Builtin.len_ #[t0] o.type #[xv]) hexec (aLenS_sound w hu hx0 hv) hk
      · rename_i n e
        exact pure_wp s hg (x := Builtin.len_ #[t0] o.type #[xv]) hexec ⟨goInt n, by simp [Builtin.len_, run_underlying hu], .int _ _⟩ h
      · rename_i arr
        generalize hu' : P.underlying arr = ud' at h
        split at h
        · rename_i n e
          exact pure_wp s hg (x := Builtin.len_ #[t0] o.type #[xv]) hexec ⟨goInt n, by simp [Builtin.len_, run_underlying hu, run_underlying hu'], .int _ _⟩ h
        · cases h
      · cases h
  · -- min
    rename_i x xs
    cases hx with
    | cons _ xv _ xvs hx0 hx1 =>
      obtain ⟨v, hv, hk⟩ := lp_some h
      obtain ⟨z, hz, rz⟩ := aFold_sound (P := P) w (fun h1 h2 h3 => aMin2_sound (P := P) w h1 h2 h3) hx0 hx1 hv
      exact pure_wp s hg (x := Builtin.min_ ts.toArray o.type (xv :: xvs).toArray) hexec ⟨z, by simpa [Builtin.min_] using hz, rz⟩ hk
  · -- max
    rename_i x xs
    cases hx with
    | cons _ xv _ xvs hx0 hx1 =>
      obtain ⟨v, hv, hk⟩ := lp_some h
      obtain ⟨z, hz, rz⟩ := aFold_sound (P := P) w (fun h1 h2 h3 => aMax2_sound (P := P) w h1 h2 h3) hx0 hx1 hv
      exact pure_wp s hg (x := Builtin.max_ ts.toArray o.type (xv :: xvs).toArray) hexec ⟨z, by simpa [Builtin.max_] using hz, rz⟩ hk
  · -- append
    rename_i st xt sv x
    cases hx with
    | cons _ sval _ _ hx0 hx1 =>
      cases hx1 with
      | cons _ xval _ _ hx1 hx2 =>
        cases hx2
        generalize hu : P.underlying st = ud at h
        generalize hd : P.underlying xt = ud2 at h
        split at h
        · cases h
        · rename_i e d hnot
          generalize hn : size? P e = sn at h
          generalize hz : zeroCells? P e = sz at h
          split at h
          · rename_i n z
            split at h
            · rename_i hb
              obtain ⟨v, m1, hv, hk⟩ := bnd_some h
              exact made_wp hg (x := Builtin.append_ #[st, xt] o.type #[sval, xval]) hexec (append_sound s hu ⟨d, hd, fun kk e => by subst e; exact hnot _ rfl⟩ hn hz hb.1 hb.2.1 rfl hb.2.2 hx0 hx1 hv) hk
            · cases h
          · cases h
        · cases h
  · -- copy
    rename_i dt ts' d x
    cases hx with
    | cons _ dv _ _ hx0 hx1 =>
      cases hx1 with
      | cons _ xv _ _ hx1 hx2 =>
        cases hx2
        generalize hu : P.underlying dt = ud at h
        split at h
        · rename_i e
          generalize hn : size? P e = sn at h
          split at h
          · rename_i n
            obtain ⟨v, m1, hv, hk⟩ := bnd_some h
            have := copy_sound (P := P) (xt := 0) (ty := o.type) s hu hn hx0 hx1 hv
            obtain ⟨z, g', w', e1, e2, e3, e4⟩ := this
            refine made_wp hg (x := Builtin.copy_ (dt :: ts').toArray o.type #[dv, xv]) hexec ⟨z, g', w', ?_, e2, e3, e4⟩ hk
            rw [← e1]
            simp [Builtin.copy_]
          · cases h
        · cases h
  · -- unsafe.SliceData
    rename_i x
    cases hx with
    | cons _ xv _ _ hx0 hx1 =>
      cases hx1
      generalize hu : P.underlying o.type = ud at h
      split at h
      · rename_i e
        obtain ⟨v, m1, hv, hk⟩ := bnd_some h
        exact made_wp hg (x := Builtin.unsafeSliceData_ _ o.type #[xv]) hexec (sliceData_sound s hu hx0 hv) hk
      · cases h
  · -- unsafe.String
    rename_i pt it p n
    cases hx with
    | cons _ pv _ _ hx0 hx1 =>
      cases hx1 with
      | cons _ nv _ _ hx1 hx2 =>
        cases hx2
        generalize hu : P.underlying pt = ud at h
        split at h
        · rename_i e
          split at h
          · rename_i hs
            obtain ⟨v, m1, hv, hk⟩ := bnd_some h
            exact made_wp hg (x := Builtin.unsafeString_ #[pt, it] o.type #[pv, nv]) hexec (unsafeStr_sound s hu hs hx0 hx1 hv) hk
          · cases h
        · cases h
  · cases h

/-- A conversion. -/
theorem conv_wp (s : Sim W g m w) (hg : Goes W g m k r o a next) {src dst : TypeId} {x : AV} {xo : Operand} (hx : VR g m.next x (a.eval xo)) (ho : o.op = .convert src dst xo) (h : aConv P src dst x k m = some r) : o.wp P a w next Q := by
  have hexec : execOp a.eval o = (do pure (.value (← convert src dst (a.eval xo)))) := by unfold execOp; rw [ho]
  generalize a.eval xo = xv at hx hexec
  unfold aConv at h
  generalize hs : P.underlying src = us at h
  generalize hd : P.underlying dst = ud at h
  split at h
  · rename_i u
    split at h
    · rename_i hu
      obtain ⟨v, m1, hv, hk⟩ := bnd_some h
      exact made_wp hg hexec (fromUnsafe_sound s hs hd hu hx hv) hk
    · cases h
  · rename_i t
    split at h
    · cases h
    · rename_i hu
      obtain ⟨v, m1, hv, hk⟩ := bnd_some h
      exact made_wp hg hexec (toUnsafe_sound s hs hd hu hx hv) hk
  · cases h
  · cases h
  · rename_i d kd hn1 hn2
    obtain ⟨v, hv, hk⟩ := lp_some h
    refine pure_wp s hg hexec ?_ hk
    unfold aInt at hv
    split at hv
    · cases hx; cases hv
      exact ⟨_, by simp [convert, run_underlying hs, run_underlying hd, Conv.intToInt] <;> rfl, .int _ _⟩
    · cases hv
  · rename_i e
    generalize he : P.underlying e = ue at h
    split at h
    · split at h
      · obtain ⟨v, m1, hv, hk⟩ := bnd_some h
        exact made_wp hg hexec (toBytes_sound s hs hd he hx hv) hk
      · cases h
    · cases h
  · obtain ⟨v, hv, hk⟩ := lp_some h
    refine pure_wp s hg hexec ?_ hk
    unfold aStr at hv
    split at hv
    · cases hx; cases hv
      exact ⟨_, by simp [convert, run_underlying hs, run_underlying hd] <;> rfl, .str _⟩
    · cases hv
  · rename_i e
    generalize he : P.underlying e = ue at h
    split at h
    · obtain ⟨v, m1, hv, hk⟩ := bnd_some h
      exact made_wp hg hexec (ofBytes_sound s hs hd he hx hv) hk
    · cases h
  · cases h

/-- An operation of a region goes as the abstract machine's. -/
theorem aop_sound {call : Nat → List AV → M AV} (hcall : CallOk P W call) (s : Sim W g m w) (hg : Goes W g m k r o a next) {t : TM} (hρ : ∀ x, VR g m.next (t.ev x) (a.eval x)) (h : aop P call o t k m = some r) : o.wp P a w next Q := by
  unfold aop at h
  generalize hop : o.op = op at h
  split at h
  · exact pure_wp s hg (x := pure (a.eval _)) (by unfold execOp; rw [hop]; rfl) ⟨_, rfl, hρ _⟩ h
  · exact pure_wp s hg (x := pure (a.eval _)) (by unfold execOp; rw [hop]; rfl) ⟨_, rfl, hρ _⟩ h
  · -- pick
    rename_i c x y
    obtain ⟨v, hv, hk⟩ := lp_some h
    obtain ⟨z, hz, rz⟩ := aPick_sound (P := P) w (hρ c) (hρ x) (hρ y) hv
    exact val_wp (by unfold execOp; rw [hop]; exact hz) (hg v z g m w rz s (Ext'.refl _ _) hk)
  · -- alloc
    rename_i e
    generalize hz : zeroCells? P e = sz at h
    split at h
    · obtain ⟨v, m1, hv, hk⟩ := bnd_some h
      exact made_wp hg (by unfold execOp; rw [hop]) (alloc_sound s hz hv) hk
    · cases h
  · -- box
    obtain ⟨v, m1, hv, hk⟩ := bnd_some h
    exact made_wp hg (by unfold execOp; rw [hop]) (box_sound s (hρ _) hv) hk
  · -- build
    rename_i ty parts
    obtain ⟨v, hv, hk⟩ := lp_some h
    have hp := parts_rel hρ parts
    exact pure_wp s hg (by unfold execOp; rw [hop]) (build_sound w hp.1 hp.2 hv) hk
  · -- buildSlice
    rename_i ty len parts
    generalize hu : P.underlying ty = ud at h
    split at h
    · rename_i e
      generalize hn : size? P e = sn at h
      generalize hz : zeroCells? P e = sz at h
      split at h
      · rename_i n z
        split at h
        · rename_i hb
          obtain ⟨cs, hcs, h⟩ := lp_some h
          obtain ⟨v, m1, hv, hk⟩ := bnd_some h
          have hp := parts_rel hρ parts
          exact made_wp hg (by unfold execOp; rw [hop]) (buildSlice_sound s hu hn hz hb.1 hb.2 hp.1 hp.2 hcs hv) hk
        · cases h
      · cases h
    · cases h
  · -- load
    rename_i ty x
    generalize hs : shape? P ty = sh at h
    split at h
    · obtain ⟨v, m1, hv, hk⟩ := bnd_some h
      unfold load at hv
      obtain ⟨u, hu, hq⟩ := Option.map_eq_some_iff.1 hv
      cases hq
      exact pure_wp s hg (by unfold execOp; rw [hop]) (load_sound s hs (hρ _) hu) hk
    · cases h
  · -- store
    rename_i ty x y
    generalize hs : shape? P ty = sh at h
    split at h
    · obtain ⟨v, m1, hv, hk⟩ := bnd_some h
      obtain ⟨w', h1, h2, h3, rfl⟩ := store_sound (P := P) s hs (hρ x) (hρ y) hv
      exact skip_wp (by unfold execOp; rw [hop]; simp [h1]) (hg .undef Go.undef g m1 w' (.undef _) h2 (by rw [h3]; exact Ext'.refl _ _) hk)
    · cases h
  · -- nilCheck
    rename_i x
    obtain ⟨v, hv, hk⟩ := lp_some h
    have hx := hρ x
    unfold aNil at hv
    split at hv
    · rename_i heq
      cases hv
      rw [heq] at hx
      generalize hxe : a.eval x = xv at hx
      cases hx with
      | ptr i o hi => exact val_wp (by unfold execOp; rw [hop]; simp only [hxe]; rfl) (hg _ _ g m w (.ptr _ _ hi) s (Ext'.refl _ _) hk)
    · rename_i heq
      cases hv
      rw [heq] at hx
      generalize hxe : a.eval x = xv at hx
      cases hx with
      | func _ _ _ x y h1 h2 => exact val_wp (by unfold execOp; rw [hop]; simp only [hxe]; rfl) (hg _ _ g m w (.func _ _ _ _ _ h1 h2) s (Ext'.refl _ _) hk)
    · cases hv
  · -- binOp
    rename_i op' ty x y yt
    obtain ⟨v, hv, hk⟩ := lp_some h
    exact pure_wp s hg (x := do eqGuard op' ty x y (a.eval x) (a.eval y); binOp op' ty (a.eval x) (a.eval y)) (by unfold execOp; rw [hop]) (aBin_sound w (hρ x) (hρ y) hv x y) hk
  · -- unOp
    obtain ⟨v, hv, hk⟩ := lp_some h
    exact pure_wp s hg (by unfold execOp; rw [hop]) (aUn_sound w (hρ _) hv) hk
  · exact conv_wp s hg (hρ _) hop h
  · -- makeFunc
    rename_i fn first captured
    have h1 := evs_rel hρ first.toList
    have h2 := evs_rel hρ captured.toList
    refine pure_wp s hg (x := Instr.makeFunc fn (first.map a.eval) (captured.map a.eval)) (by unfold execOp; rw [hop]) ⟨_, rfl, ?_⟩ h
    have e1 : first.map a.eval = (first.toList.map a.eval).toArray := by apply Array.ext'; simp
    have e2 : captured.map a.eval = (captured.toList.map a.eval).toArray := by apply Array.ext'; simp
    rw [e1, e2]
    exact .func _ _ _ _ _ h1 h2
  · -- makeSlice
    rename_i ty l c
    generalize hu : P.underlying ty = ud at h
    split at h
    · rename_i e
      generalize hn : size? P e = sn at h
      generalize hz : zeroCells? P e = sz at h
      split at h
      · split at h
        · rename_i hb
          obtain ⟨v, m1, hv, hk⟩ := bnd_some h
          exact made_wp hg (by unfold execOp; rw [hop]) (mkSlice_sound s hu hn hz rfl hb (hρ l) (hρ c) hv) hk
        · cases h
      · cases h
    · cases h
  · -- slice
    rename_i ty x lo hi
    generalize hu : P.underlying ty = ud at h
    split at h
    · obtain ⟨v, hv, hk⟩ := lp_some h
      exact pure_wp s hg (x := Instr.sliceAt ty (a.eval x) (lo.map a.eval) (hi.map a.eval) none) (by unfold execOp; rw [hop]; rfl) (aSliceStr_sound w hu (hρ x) (orel hρ lo) (orel hρ hi) hv) hk
    · rename_i e
      generalize hn : size? P e = sn at h
      split at h
      · obtain ⟨v, hv, hk⟩ := lp_some h
        exact pure_wp s hg (x := Instr.sliceAt ty (a.eval x) (lo.map a.eval) (hi.map a.eval) none) (by unfold execOp; rw [hop]; rfl) (aSlice_sound w hu hn (hρ x) (orel hρ lo) (orel hρ hi) hv) hk
      · cases h
    · rename_i n e
      generalize hn : size? P e = sn at h
      split at h
      · obtain ⟨v, hv, hk⟩ := lp_some h
        exact pure_wp s hg (x := Instr.sliceAt ty (a.eval x) (lo.map a.eval) (hi.map a.eval) none) (by unfold execOp; rw [hop]; rfl) (aSliceA_sound w hu hn (hρ x) (orel hρ lo) (orel hρ hi) hv) hk
      · cases h
    · cases h
  · -- fieldAddr
    rename_i st x f
    generalize hf : fieldOf P st f = of at h
    split at h
    · rename_i fd
      split at h
      · cases h
      · rename_i hs0
        obtain ⟨v, hv, hk⟩ := lp_some h
        obtain ⟨z, hz, rz⟩ := aOff_sound (P := P) w (f := fd) (hρ x) hv hs0
        refine pure_wp s hg (x := Instr.fieldAt st (a.eval x) f) (by unfold execOp; rw [hop]) ⟨z, ?_, rz⟩ hk
        unfold fieldOf at hf
        split at hf
        · rename_i fs hu
          simp only [Instr.fieldAt, Sem.run_bind, run_underlying hu, Result.andThen_ok, hf]
          simpa using hz
        · cases hf
    · cases h
  · -- field
    rename_i st x f
    generalize hf : fieldOf P st f = of at h
    split at h
    · rename_i fd
      generalize hs : shape? P fd.type = sh at h
      split at h
      · obtain ⟨v, hv, hk⟩ := lp_some h
        exact pure_wp s hg (by unfold execOp; rw [hop]) (aFld_sound w hf hs (hρ x) hv) hk
      · cases h
    · cases h
  · -- indexAddr
    rename_i ty x ix
    generalize hu : P.underlying ty = ud at h
    split at h
    · rename_i e
      generalize hn : size? P e = sn at h
      split at h
      · obtain ⟨v, hv, hk⟩ := lp_some h
        exact pure_wp s hg (by unfold execOp; rw [hop]) (aIdxS_sound w hu hn (hρ x) (hρ ix) hv) hk
      · cases h
    · rename_i len e
      generalize hn : size? P e = sn at h
      split at h
      · obtain ⟨v, hv, hk⟩ := lp_some h
        exact pure_wp s hg (by unfold execOp; rw [hop]) (aIdxA_sound w hu hn (hρ x) (hρ ix) hv) hk
      · cases h
    · cases h
  · -- index
    rename_i ty x ix
    generalize hu : P.underlying ty = ud at h
    split at h
    · obtain ⟨v, hv, hk⟩ := lp_some h
      exact pure_wp s hg (by unfold execOp; rw [hop]) (aIdxStr_sound w hu (hρ x) (hρ ix) hv) hk
    · rename_i len e
      generalize hn : size? P e = sn at h
      generalize hs : shape? P e = sh at h
      split at h
      · obtain ⟨v, hv, hk⟩ := lp_some h
        exact pure_wp s hg (by unfold execOp; rw [hop]) (aIdxV_sound w hu hn hs (hρ x) (hρ ix) hv) hk
      · cases h
    · cases h
  · -- extract
    obtain ⟨v, hv, hk⟩ := lp_some h
    exact pure_wp s hg (by unfold execOp; rw [hop]) (aExt_sound w (hρ _) hv) hk
  · -- makeMap
    obtain ⟨v, m1, hv, hk⟩ := bnd_some h
    exact made_wp hg (by unfold execOp; rw [hop]; rfl) (newMap_sound P s hv) hk
  · -- lookup
    rename_i ty x ix ok
    generalize hu : P.underlying ty = ud at h
    split at h
    · rename_i kt et
      generalize hz : (P.info? et).bind (·.zero) = oz at h
      split at h
      · obtain ⟨v, m1, hv, hk⟩ := bnd_some h
        exact made_wp hg (by unfold execOp; rw [hop]) (mapGet_sound s hu hz (hρ x) (hρ ix) hv) hk
      · cases h
    · cases h
  · -- mapUpdate
    rename_i ty x ix y
    generalize hu : P.underlying ty = ud at h
    split at h
    · obtain ⟨v, m1, hv, hk⟩ := bnd_some h
      obtain ⟨w', h1, h2, h3, rfl⟩ := mapPut_sound (P := P) s hu (hρ x) (hρ ix) (hρ y) hv
      exact skip_wp (by unfold execOp; rw [hop]; simp [h1]) (hg .undef Go.undef g m1 w' (.undef _) h2 (by rw [h3]; exact Ext'.refl _ _) hk)
    · cases h
  · -- insert
    rename_i ty x ix y
    generalize hu : P.underlying ty = ud at h
    split at h
    · obtain ⟨v, m1, hv, hk⟩ := bnd_some h
      obtain ⟨w', h1, h2, h3, rfl⟩ := mapPut_sound (P := P) s hu (hρ x) (hρ ix) (hρ y) hv
      exact skip_wp (by unfold execOp; rw [hop]; simp [h1]) (hg .undef Go.undef g m1 w' (.undef _) h2 (by rw [h3]; exact Ext'.refl _ _) hk)
    · cases h
  · -- range
    rename_i ty x
    generalize hu : P.underlying ty = ud at h
    split at h
    · obtain ⟨v, m1, hv, hk⟩ := bnd_some h
      exact made_wp hg (by unfold execOp; rw [hop]) (rangeStr_sound s hu (hρ x) hv) hk
    · cases h
  · -- next
    obtain ⟨v, m1, hv, hk⟩ := bnd_some h
    exact made_wp hg (by unfold execOp; rw [hop]) (nextStr_sound P s (hρ _) hv) hk
  · exact callee_wp hcall s hg hρ hop h
  · exact builtin_wp s hg hρ hop h
  · cases h

end Go.Proofs.YtooogfnmhfocjaaDoor.Spl

/- The abstract machine, 9: regions in the order of the text. -/
namespace Go.Proofs.YtooogfnmhfocjaaDoor.Spl
open Go Go.RowKit Go.Lib
set_option linter.unusedVariables false
set_option linter.unusedSimpArgs false

/-- How frames and memory stand to Go's. -/
structure St (W : Ref) (nt : Nat) (g : Gm) (m : Mem) (t : TM) (a : Act) (w : World) : Prop where
  sim : Sim W g m w
  tm : ∀ i, VR g m.next (t.getD i .undef) (a.tmps.getD i Go.undef)
  len : t.length ≤ a.tmps.size
  nt : nt ≤ a.tmps.size
  defers : a.defers = []

variable {P : Program} {W : Ref} {nt : Nat} {g : Gm} {m : Mem} {t : TM} {a : Act} {w : World}

theorem St.ev (s : St W nt g m t a w) (x : Operand) : VR g m.next (t.ev x) (a.eval x) := by
  cases x with
  | tmp i => exact s.tm i
  | const v => exact VR.av _ _ v
  | global b => exact .undef _
  | func f => exact .func _ _ _ [] [] .nil .nil

theorem TM.getD_set (t : TM) (i j : Nat) (v : AV) : (t.set i v).getD j .undef = if i = j ∧ i < t.length then v else t.getD j .undef := by
  simp only [List.getD_eq_getElem?_getD, List.getElem?_set]
  by_cases h : i = j
  · subst h
    by_cases h2 : i < t.length
    · simp [h2]
    · simp [h2]
  · simp [h]

theorem St.put (s : St W nt g m t a w) {g' : Gm} {m' : Mem} {w' : World} (s' : Sim W g' m' w') (e : Ext' g m.next g' m'.next) {v : AV} {z : Value} (hv : VR g' m'.next v z) (d : Option Tmp) : St W nt g' m' (t.put d v) (a.put d z) w' := by
  cases d with
  | none => exact ⟨s', fun i => (s.tm i).mono e, s.len, s.nt, s.defers⟩
  | some d =>
    refine ⟨s', fun i => ?_, by simp [TM.put, Act.put]; exact s.len, by simp [Act.put]; exact s.nt, by simp [Act.put]; exact s.defers⟩
    simp only [TM.put, Act.put, TM.getD_set]
    split
    · rename_i h
      obtain ⟨rfl, h⟩ := h
      have : d < a.tmps.size := Nat.lt_of_lt_of_le h s.len
      simp [this]
      exact hv
    · rename_i h
      by_cases hd : d = i
      · subst hd
        have h' : ¬ d < t.length := fun e => h ⟨rfl, e⟩
        have : t.getD d .undef = .undef := by simp [List.getD_eq_getElem?_getD, List.getElem?_eq_none (Nat.le_of_not_lt h')]
        rw [this]; exact .undef _
      · have : (a.tmps.setIfInBounds d z).getD i Go.undef = a.tmps.getD i Go.undef := by
          simp [Array.getD_eq_getD_getElem?, Array.getElem?_setIfInBounds, hd]
        rw [this]; exact (s.tm i).mono e

/-- A frame of which less is known. -/
theorem St.less (s : St W nt g m t a w) {t' : TM} (h : ∀ i, t'.getD i .undef = t.getD i .undef ∨ t'.getD i .undef = .undef) (hl : t'.length ≤ a.tmps.size) : St W nt g m t' a w :=
  ⟨s.sim, fun i => by rcases h i with e | e <;> rw [e]; exact s.tm i; exact .undef _, hl, s.nt, s.defers⟩

theorem mask_getD : ∀ (t : TM) (L i : Nat), (mask L t).getD i .undef = t.getD i .undef ∨ (mask L t).getD i .undef = .undef
  | [], _, _ => .inr rfl
  | v :: t, L, 0 => by
    simp only [mask, List.getD_cons_zero]
    split
    · exact .inl rfl
    · exact .inr rfl
  | v :: t, L, i + 1 => by simpa [mask] using mask_getD t (L / 2) i
theorem mask_length : ∀ (t : TM) (L : Nat), (mask L t).length = t.length
  | [], _ => rfl
  | v :: t, L => by simp [mask, mask_length t]
theorem St.mask (s : St W nt g m t a w) (L : Nat) : St W nt g m (mask L t) a w := s.less (mask_getD t L) (by rw [mask_length]; exact s.len)

theorem unpack_length (L : Nat) : ∀ (f i j : Nat) (l : List AV), (unpack L f i j l).length = f
  | 0, _, _, _ => rfl
  | f + 1, i, j, l => by simp only [unpack]; split <;> simp [unpack_length]
theorem unpack_pack (L : Nat) (t : TM) : ∀ (f i : Nat) (l : List AV) (j : Nat), l.drop j = pack L f i t → ∀ q, (unpack L f i j l).getD q .undef = t.getD (i + q) .undef ∨ (unpack L f i j l).getD q .undef = .undef
  | 0, _, _, _, _, q => .inr (by simp [unpack])
  | f + 1, i, l, j, h, q => by
    simp only [unpack, pack] at h ⊢
    split
    · rename_i hb
      rw [if_pos hb] at h
      cases q with
      | zero =>
        left
        have := congrArg (fun x => x[0]?) h
        simp at this
        simp [List.getD_eq_getElem?_getD, this]
      | succ q =>
        have h' : l.drop (j + 1) = pack L f (i + 1) t := by
          rw [← List.drop_drop, h]; rfl
        have := unpack_pack L t f (i + 1) l (j + 1) h' q
        simpa [Nat.add_assoc, Nat.add_comm 1 q] using this
    · rename_i hb
      rw [if_neg hb] at h
      cases q with
      | zero => right; rfl
      | succ q =>
        have := unpack_pack L t f (i + 1) l j h q
        simpa [Nat.add_assoc, Nat.add_comm 1 q] using this
theorem St.repack (s : St W nt g m t a w) (L : Nat) : St W nt g m (unpack L nt 0 0 (pack L nt 0 t)) a w :=
  s.less (fun i => by simpa using unpack_pack L t nt 0 (pack L nt 0 t) 0 (by simp) i) (by rw [unpack_length]; exact s.nt)

theorem mc_some {ρ : Type} {v : AV} {x y : M ρ} {m : Mem} {r : ρ × Mem} (h : mc v x y m = some r) : ∃ b, v = .bool b ∧ (if b then x else y) m = some r := by
  unfold mc at h
  split at h
  · exact ⟨true, rfl, h⟩
  · exact ⟨false, rfl, h⟩
  · cases h

theorem TM.set_self {t : TM} {d : Nat} {v : AV} (h : t.getD d .undef = v) (hv : v ≠ .undef) : t.set d v = t := by
  apply List.ext_getElem?
  intro i
  rw [List.getElem?_set]
  by_cases e : d = i
  · subst e
    by_cases hl : d < t.length
    · simp [hl]
      simp [List.getD_eq_getElem?_getD, hl] at h
      exact h.symm
    · simp [List.getD_eq_getElem?_getD, List.getElem?_eq_none (Nat.le_of_not_lt hl)] at h
      exact absurd h.symm hv
  · simp [e]

/-- Which way a guard goes. -/
theorem guarded_sound {ρ : Type} {ops : Array Oper} {j : Nat} {sk want : Bool} {yes no : TM → M ρ} {r : ρ × Mem} (s : St W nt g m t a w) (h : guarded (guardOf ops.toList t j) sk want yes no t m = some r) :
    ((yielded ops a.tmps j == some want) = true ∧ yes t m = some r) ∨ ((yielded ops a.tmps j == some want) = false ∧ no t m = some r) := by
  unfold guardOf at h
  cases ho : ops.toList[j]? with
  | none => rw [ho] at h; simp [guarded, fail] at h
  | some o =>
    rw [ho] at h
    cases hd : o.dst with
    | none => simp [hd, guarded, fail] at h
    | some d =>
      simp only [hd] at h
      have ho' : ops[j]? = some o := by simpa using ho
      have hv := s.tm d
      have hy : ∀ b, t.getD d .undef = .bool b → yielded ops a.tmps j = some b := by
        intro b hb
        rw [hb] at hv
        have hl : d < a.tmps.size := by
          rcases Nat.lt_or_ge d t.length with h1 | h1
          · exact Nat.lt_of_lt_of_le h1 s.len
          · simp [List.getD_eq_getElem?_getD, List.getElem?_eq_none h1] at hb
        generalize hq : a.tmps.getD d Go.undef = x at hv
        cases hv
        simp [Array.getD_eq_getD_getElem?, hl] at hq
        simp [yielded, ho', hd, hl, hq]
      have hn : t.getD d .undef = .tup [] → yielded ops a.tmps j = none := by
        intro hb
        rw [hb] at hv
        generalize hq : a.tmps.getD d Go.undef = x at hv
        cases hv with
        | tup _ xs hxs =>
          cases hxs
          simp only [yielded, ho', hd, Option.bind_some]
          cases hx : a.tmps[d]? with
          | none => rfl
          | some y =>
            simp [Array.getD_eq_getD_getElem?, hx] at hq
            subst hq; rfl
      generalize hv' : t.getD d .undef = v at h
      cases sk with
      | true =>
        simp only [guarded, if_true] at h
        split at h
        · right
          exact ⟨by rw [hn hv']; rfl, h⟩
        · cases h
      | false =>
        have h' : (if want then mc v (yes (t.set d (.bool true))) (no (t.set d (.bool false))) else mc v (no (t.set d (.bool true))) (yes (t.set d (.bool false)))) m = some r := by
          simpa only [guarded, Bool.false_eq_true, if_false] using h
        have main : ∀ b, v = .bool b → t.set d (.bool b) = t := fun b hb => TM.set_self (by rw [hv', hb]) (by simp)
        cases want with
        | true =>
          obtain ⟨b, rfl, hk⟩ := mc_some (by simpa using h')
          have hyb := hy b hv'
          cases b with
          | true => left; rw [main true rfl] at hk; exact ⟨by rw [hyb]; rfl, by simpa using hk⟩
          | false => right; rw [main false rfl] at hk; exact ⟨by rw [hyb]; rfl, by simpa using hk⟩
        | false =>
          obtain ⟨b, rfl, hk⟩ := mc_some (by simpa using h')
          have hyb := hy b hv'
          cases b with
          | true => right; rw [main true rfl] at hk; exact ⟨by rw [hyb]; rfl, by simpa using hk⟩
          | false => left; rw [main false rfl] at hk; exact ⟨by rw [hyb]; rfl, by simpa using hk⟩

/-- The way on behind a region or a piece of code. -/
def Then {ρ : Type} (W : Ref) (nt : Nat) (g : Gm) (m : Mem) (K : TM → M ρ) (r : ρ × Mem) (Q : Act → World → Prop) : Prop :=
  ∀ g' m' t' a' w', St W nt g' m' t' a' w' → Ext' g m.next g' m'.next → K t' m' = some r → Q a' w'
theorem Then.ext {ρ : Type} {K : TM → M ρ} {r : ρ × Mem} {Q : Act → World → Prop} (h : Then W nt g m K r Q) {g' : Gm} {m' : Mem} (e : Ext' g m.next g' m'.next) : Then W nt g' m' K r Q :=
  fun g'' m'' t' a' w' s e' hk => h g'' m'' t' a' w' s (e.trans e') hk

theorem runOps_sound {ρ : Type} {call : Nat → List AV → M AV} (hcall : CallOk P W call) {ops : Array Oper} {K : TM → M ρ} {r : ρ × Mem} {Q : Exit → Act → World → Prop} :
    ∀ (os : List Oper) (i : Nat) {sk : Nat} {g : Gm} {m : Mem} {t : TM} {a : Act} {w : World}, ops.toList.drop i = os → St W nt g m t a w → Then W nt g m K r (Q .normal) → runOps P call ops.toList i sk os K t m = some r →
      wpOps P ops Q (List.range' i os.length) a w
  | [], i, sk, g, m, t, a, w, _, s, hK, h => by
    simp only [List.length_nil, List.range'_zero, wpOps]
    exact hK g m t a w s (Ext'.refl _ _) h
  | o :: os, i, sk, g, m, t, a, w, hd, s, hK, h => by
    have ho : ops[i]? = some o := by
      have := congrArg (fun l => l[0]?) hd
      simpa using this
    have hd' : ops.toList.drop (i + 1) = os := by rw [← List.drop_drop, hd]; rfl
    simp only [List.length_cons, List.range'_succ, wpOps, ho]
    have hgo : ∀ {t : TM}, St W nt g m t a w → aop P call o t (fun v => runOps P call ops.toList (i + 1) sk os K (t.put o.dst v)) m = some r →
        o.wp P a w (wpOps P ops Q (List.range' (i + 1) os.length)) Q := by
      intro t s h
      refine aop_sound hcall s.sim (fun v z g' m' w' hv s' e hk => ?_) s.ev h
      exact runOps_sound hcall os (i + 1) hd' (s.put s' e hv o.dst) (hK.ext e) hk
    have hskip : ∀ {t : TM}, St W nt g m t a w → runOps P call ops.toList (i + 1) (sk ||| 2 ^ i) os K (t.put o.dst (.tup [])) m = some r → wpOps P ops Q (List.range' (i + 1) os.length) (a.put o.dst Go.undef) w := by
      intro t s h
      exact runOps_sound hcall os (i + 1) hd' (s.put s.sim (Ext'.refl _ _) (.tup [] [] .nil) o.dst) hK h
    unfold runOps at h
    cases hg : o.guard with
    | none =>
      rw [hg] at h
      simp only at h
      rw [if_pos (by simp [Region.wanted, hg])]
      exact .inl (hgo s h)
    | some jw =>
      obtain ⟨j, want⟩ := jw
      rw [hg] at h
      simp only at h
      rcases guarded_sound s h with ⟨hy, h⟩ | ⟨hy, h⟩
      · rw [if_pos (by simpa [Region.wanted, hg] using hy)]
        exact .inl (hgo s h)
      · rw [if_neg (by simp only [Region.wanted, hg]; rw [hy]; simp)]
        exact hskip s h

end Go.Proofs.YtooogfnmhfocjaaDoor.Spl

/- The abstract machine, 10: regions that draw their order. -/
namespace Go.Proofs.YtooogfnmhfocjaaDoor.Spl
open Go Go.RowKit Go.Lib
set_option linter.unusedVariables false
set_option linter.unusedSimpArgs false

theorem everyI_spec {p : Nat → Oper → Bool} : ∀ {os : List Oper} {i : Nat}, everyI i p os = true → ∀ q o, os[q]? = some o → p (i + q) o = true
  | [], _, _, q, o, h => by simp at h
  | x :: os, i, h, 0, o, ho => by
    simp only [everyI, Bool.and_eq_true] at h
    simp at ho; subst ho; exact h.1
  | x :: os, i, h, q + 1, o, ho => by
    simp only [everyI, Bool.and_eq_true] at h
    have := everyI_spec h.2 q o (by simpa using ho)
    rwa [show i + 1 + q = i + (q + 1) by omega] at this

/-! what stands ahead -/

theorem befores_spec : ∀ (os : List Oper) (acc : List Nat), (befores acc os).length = acc.length + os.length ∧ (befores acc os).take acc.length = acc ∧
    ∀ q o, os[q]? = some o → (befores acc os)[acc.length + q]? = some (beforeOf ((befores acc os).take (acc.length + q)) o)
  | [], acc => by simp [befores]
  | x :: os, acc => by
    obtain ⟨h1, h2, h3⟩ := befores_spec os (acc ++ [beforeOf acc x])
    simp only [List.length_append, List.length_singleton] at h1 h2 h3
    have ht : (befores (acc ++ [beforeOf acc x]) os).take acc.length = acc := by
      have := congrArg (fun l => l.take acc.length) h2
      simpa [List.take_take] using this
    refine ⟨by simp [befores, h1]; omega, by simpa [befores] using ht, fun q o ho => ?_⟩
    cases q with
    | zero =>
      simp at ho; subst ho
      simp only [befores, Nat.add_zero, ht]
      have := congrArg (fun l => l[acc.length]?) h2
      simpa [List.getElem?_take] using this
    | succ q =>
      have := h3 q o (by simpa using ho)
      simp only [befores]
      rw [show acc.length + (q + 1) = acc.length + 1 + q by omega]
      exact this

theorem beforeOf_bit {acc : List Nat} {o : Oper} {j : Nat} (h : (beforeOf acc o).testBit j = true) : ∃ e ∈ o.after.toList, Region.binds .any e = true ∧ (j = e.on ∨ (acc.getD e.on 0).testBit j = true) := by
  unfold beforeOf at h
  generalize o.after.toList = l at h
  induction l with
  | nil => simp at h
  | cons e l ih =>
    simp only [List.foldr_cons] at h
    by_cases hb : Region.binds .any e = true
    · rw [if_pos hb] at h
      simp only [Nat.testBit_or, Bool.or_eq_true] at h
      rcases h with (h | h) | h
      · obtain ⟨e', h1, h2⟩ := ih h; exact ⟨e', .tail _ h1, h2⟩
      · rw [Nat.testBit_two_pow] at h
        exact ⟨e, .head _, hb, .inl (by simpa using h.symm : e.on = j).symm⟩
      · exact ⟨e, .head _, hb, .inr h⟩
    · rw [if_neg hb] at h
      obtain ⟨e', h1, h2⟩ := ih h; exact ⟨e', .tail _ h1, h2⟩

/-- All that stands ahead of an operation whose edges are listed is listed. -/
theorem ahead_listed {ops : List Oper} {D : Nat → Prop} (hE : ∀ (i : Nat) o, ops[i]? = some o → ∀ e ∈ o.after.toList, Region.binds .any e = true → e.on < i)
    (hD : ∀ (i : Nat) o, ops[i]? = some o → D i → ∀ e ∈ o.after.toList, Region.binds .any e = true → D e.on) : ∀ (i : Nat) o, ops[i]? = some o → (∀ e ∈ o.after.toList, Region.binds .any e = true → D e.on) →
      ∀ j, ((befores [] ops).getD i 0).testBit j = true → D j := by
  intro i
  induction i using Nat.strongRecOn with
  | _ i ih =>
    intro o ho he j hj
    obtain ⟨_, _, h3⟩ := befores_spec ops []
    have hb := h3 i o ho
    simp only [List.length_nil, Nat.zero_add] at hb
    have hj' : (beforeOf ((befores [] ops).take i) o).testBit j = true := by
      simpa [List.getD_eq_getElem?_getD, hb] using hj
    obtain ⟨e, hm, hbd, hor⟩ := beforeOf_bit hj'
    rcases hor with rfl | hor
    · exact he e hm hbd
    · have hlt := hE i o ho e hm hbd
      have hil : i < ops.length := by rcases Nat.lt_or_ge i ops.length with h | h; exact h; simp [List.getElem?_eq_none h] at ho
      obtain ⟨oe, hoe⟩ : ∃ oe, ops[e.on]? = some oe := ⟨ops[e.on]'(by omega), by simp⟩
      refine ih e.on hlt oe hoe (fun e' hm' hb' => hD e.on oe hoe (he e hm hbd) e' hm' hb') j ?_
      simpa [List.getD_eq_getElem?_getD, List.getElem?_take, hlt] using hor
/-- What stands ahead comes earlier. -/
theorem ahead_lt {ops : List Oper} (hE : ∀ (i : Nat) o, ops[i]? = some o → ∀ e ∈ o.after.toList, Region.binds .any e = true → e.on < i) {i j : Nat} {o : Oper} (ho : ops[i]? = some o) (h : ((befores [] ops).getD i 0).testBit j = true) : j < i :=
  ahead_listed (D := fun x => x < i) hE (fun q oq hq hD e hm hb => by have := hE q oq hq e hm hb; omega) i o ho (fun e hm hb => hE i o ho e hm hb) j h

/-! operations and what they hang on -/

variable {P : Program} {W : Ref}

theorem lp_bnd {α : Type} (x : Option AV) (k : AV → M α) : lp x k = bnd (lp x ret) k := by cases x <;> rfl
theorem bnd_bnd {α : Type} (x : M AV) (k : AV → M α) : bnd x k = bnd (bnd x ret) k := by
  funext m
  unfold bnd
  cases x m <;> rfl
theorem lpl_bnd {α β : Type} (x : Option β) (y : β → M AV) (k : AV → M α) : (lp x fun c => bnd (y c) k) = bnd (lp x fun c => bnd (y c) ret) k := by
  cases x with
  | none => rfl
  | some c => exact bnd_bnd _ _

theorem aBuiltin_bnd {α : Type} (b : Builtin) (ats : List TypeId) (ty : TypeId) (args : List AV) (k : AV → M α) : aBuiltin P b ats ty args k = bnd (aBuiltin P b ats ty args ret) k := by
  unfold aBuiltin
  split
  all_goals (repeat' split)
  all_goals first
    | rfl
    | exact lp_bnd _ _
    | exact bnd_bnd _ _
theorem aConv_bnd {α : Type} (src dst : TypeId) (x : AV) (k : AV → M α) : aConv P src dst x k = bnd (aConv P src dst x ret) k := by
  unfold aConv
  split
  all_goals (repeat' split)
  all_goals first
    | rfl
    | exact lp_bnd _ _
    | exact bnd_bnd _ _
theorem callee_bnd {α : Type} (call : Nat → List AV → M AV) (f : AV) (args : List AV) (k : AV → M α) : callee call f args k = bnd (callee call f args ret) k := by
  unfold callee
  split
  · exact bnd_bnd _ _
  · rfl

theorem aop_bnd {α : Type} (call : Nat → List AV → M AV) (o : Oper) (t : TM) (k : AV → M α) : aop P call o t k = bnd (aop P call o t ret) k := by
  unfold aop
  split
  all_goals first
    | rfl
    | exact lp_bnd _ _
    | exact bnd_bnd _ _
    | exact aConv_bnd _ _ _ _
    | exact callee_bnd _ _ _ _
    | exact aBuiltin_bnd _ _ _ _ _
    | skip
  all_goals (repeat' split)
  all_goals first
    | rfl
    | exact lp_bnd _ _
    | exact bnd_bnd _ _
    | exact lpl_bnd _ _ _

theorem aop_det {ρ : Type} {call : Nat → List AV → M AV} {o : Oper} {t : TM} {k : AV → M ρ} {m : Mem} {r : ρ × Mem} (h : aop P call o t k m = some r) :
    ∃ v m1, k v m1 = some r ∧ ∀ {σ : Type} (k' : AV → M σ), aop P call o t k' m = k' v m1 := by
  rw [aop_bnd] at h
  obtain ⟨v, m1, h1, h2⟩ := bnd_some h
  refine ⟨v, m1, h2, fun k' => ?_⟩
  rw [aop_bnd]
  unfold bnd
  rw [h1]

/-- What neither reads nor writes memory. -/
theorem aConv_int {src dst : TypeId} {x : AV} {kd : IntKind} (hd : P.underlying dst = some (.int kd)) : ∃ y : Option AV, ∀ {α : Type} (k : AV → M α), aConv P src dst x k = lp y k := by
  unfold aConv
  rw [hd]
  cases P.underlying src with
  | none => exact ⟨none, fun _ => rfl⟩
  | some d => cases d <;> first | exact ⟨_, fun _ => rfl⟩ | exact ⟨none, fun _ => rfl⟩

theorem class0 {call : Nat → List AV → M AV} {o : Oper} (hc : opClass P o.op = 0) (t : TM) : ∃ x : Option AV, ∀ {α : Type} (k : AV → M α), aop P call o t k = lp x k := by
  unfold aop
  generalize hop : o.op = op at hc
  split
  all_goals first
    | exact ⟨some _, fun _ => rfl⟩
    | exact ⟨none, fun _ => rfl⟩
    | exact ⟨_, fun _ => rfl⟩
    | (exfalso; simp [opClass] at hc; done)
    | skip
  all_goals (repeat' split)
  all_goals first
    | exact ⟨some _, fun _ => rfl⟩
    | exact ⟨none, fun _ => rfl⟩
    | exact ⟨_, fun _ => rfl⟩
    | skip
  · rename_i src dst x
    simp only [opClass] at hc
    split at hc
    · rename_i hd
      obtain ⟨y, hy⟩ := aConv_int (P := P) (src := src) (x := t.ev x) hd
      exact ⟨y, fun k => hy k⟩
    · cases hc
  rename_i b args ats
  generalize t.evs args.toList = xs
  generalize ats.toList = ts
  cases b <;> first
    | (exfalso; simp [opClass] at hc; done)
    | skip
  all_goals
    unfold aBuiltin
    split
    all_goals first
      | exact ⟨_, fun _ => rfl⟩
      | exact ⟨none, fun _ => rfl⟩
      | (exfalso; simp_all; done)
      | (repeat' split
         all_goals first
           | exact ⟨some _, fun _ => rfl⟩
           | exact ⟨none, fun _ => rfl⟩
           | exact ⟨_, fun _ => rfl⟩)

theorem aop_congr {α : Type} (call : Nat → List AV → M AV) (o : Oper) {t t' : TM} (h : ∀ x ∈ o.op.operands, t.ev x = t'.ev x) (k : AV → M α) : aop P call o t k = aop P call o t' k := by
  have hs : ∀ xs : Array Operand, (∀ x ∈ xs, t.ev x = t'.ev x) → t.evs xs.toList = t'.evs xs.toList := fun xs hx => List.map_congr_left fun x hm => hx x (by simpa using hm)
  have hp : ∀ ps : Array (Nat × Operand), (∀ x ∈ (ps.toList.map (·.2)).toArray, t.ev x = t'.ev x) → (ps.toList.map fun (i, x) => (i, t.ev x)) = (ps.toList.map fun (i, x) => (i, t'.ev x)) := fun ps hx =>
    List.map_congr_left fun p hm => by
      obtain ⟨i, x⟩ := p
      simp only [hx x (by simpa using ⟨i, by simpa using hm⟩)]
  unfold aop
  generalize hop : o.op = op at h
  cases op <;> simp only [Op.operands] at h
  case build ty ps => simp only [hp ps h]
  case buildSlice ty n ps => simp only [hp ps h]
  case makeFunc fn first captured => simp only [hs first fun x hx => h x (by simp [hx]), hs captured fun x hx => h x (by simp [hx])]
  case call c =>
    obtain ⟨ce, args, ats⟩ := c
    cases ce with
    | value f => simp only [h f (by simp [Call.operands]), hs args fun x hx => h x (by simp [Call.operands, hx])]
    | invoke _ _ => rfl
    | builtin b => simp only [hs args fun x hx => h x (by simp [Call.operands, hx])]
  case slice ty x lo hi mx =>
    cases lo <;> cases hi <;> cases mx <;> simp_all
  case makeMap ty r => cases r <;> rfl
  case next x b => cases b <;> simp_all
  all_goals first
    | rfl
    | (simp_all; done)
    | trace_state

/-! the run in the order of the text, told op by op -/

/-- What the run in the order of the text did at an operation: frame and memory ahead (t, m) and behind (t', m'), the value, whether it was run. -/
structure Did (P : Program) (call : Nat → List AV → M AV) (ops : List Oper) (t t' : TM) (m m' : Mem) (v : AV) (x : Bool) (o : Oper) : Prop where
  put : t' = t.put o.dst v
  wants : ∀ (g : Gm) (n : Nat) (a : Act) (ops' : Array Oper), ops'.toList = ops → t.length ≤ a.tmps.size → (∀ j want d oj, o.guard = some (j, want) → ops[j]? = some oj → oj.dst = some d → VR g n (t.getD d .undef) (a.tmps.getD d Go.undef)) →
    Region.wanted o (yielded ops' a.tmps) = x
  skip : x = false → v = .tup [] ∧ m' = m
  still : opClass P o.op ≠ 2 → m' = m
  pure : x = true → opClass P o.op = 0 → ∀ (q : Mem) {σ : Type} (k : AV → M σ), aop P call o t k q = k v q
  heavy : x = true → opClass P o.op = 2 → ∀ {σ : Type} (k : AV → M σ), aop P call o t k m = k v m'

/-- A load: from where. -/
def Loads (P : Program) (t : TM) (o : Oper) (sh : Option Nat) (a : AV) : Prop := ∃ ty x, o.op = .load ty x ∧ shape? P ty = some sh ∧ t.ev x = a

theorem same_some {ρ : Type} {sh : Option Nat} {a v : AV} {m' : Mem} {k : M ρ} {m : Mem} {r : ρ × Mem} (h : same sh a v m' k m = some r) : load? sh a m' = some v ∧ k m = some r := by
  unfold same at h
  generalize hl : load? sh a m' = x at h
  cases x with
  | none => cases h
  | some u =>
    simp only at h
    generalize he : AV.eqb u v = b at h
    cases b with
    | false => cases h
    | true => exact ⟨by rw [AV.eq_of_eqb he], h⟩
theorem sameIn_some {ρ : Type} {bf : Nat} {sh : Option Nat} {a v : AV} {k : M ρ} {m : Mem} {r : ρ × Mem} : ∀ {ms : List (Nat × Mem)}, sameIn bf sh a v ms k m = some r →
    k m = some r ∧ ∀ h mh, (h, mh) ∈ ms → bf.testBit h = false → load? sh a mh = some v
  | [], h => ⟨h, fun _ _ hm => by cases hm⟩
  | (q, mq) :: ms, h => by
    unfold sameIn at h
    split at h
    · rename_i hb
      obtain ⟨h1, h2⟩ := sameIn_some h
      refine ⟨h1, fun p mp hm hf => ?_⟩
      cases hm with
      | head => rw [hb] at hf; cases hf
      | tail _ hm => exact h2 p mp hm hf
    · obtain ⟨hs, h⟩ := same_some h
      obtain ⟨h1, h2⟩ := sameIn_some h
      refine ⟨h1, fun p mp hm hf => ?_⟩
      cases hm with
      | head => exact hs
      | tail _ hm => exact h2 p mp hm hf
theorem sameNow_some {ρ : Type} {bf : Nat} {m' : Mem} {k : M ρ} {m : Mem} {r : ρ × Mem} : ∀ {ls : List (Nat × Option Nat × AV × AV)}, sameNow bf m' ls k m = some r →
    k m = some r ∧ ∀ l sh a v, (l, sh, a, v) ∈ ls → bf.testBit l = false → load? sh a m' = some v
  | [], h => ⟨h, fun _ _ _ _ hm => by cases hm⟩
  | (q, sq, aq, vq) :: ls, h => by
    unfold sameNow at h
    split at h
    · rename_i hb
      obtain ⟨h1, h2⟩ := sameNow_some h
      refine ⟨h1, fun l sh a v hm hf => ?_⟩
      cases hm with
      | head => rw [hb] at hf; cases hf
      | tail _ hm => exact h2 l sh a v hm hf
    · obtain ⟨hs, h⟩ := same_some h
      obtain ⟨h1, h2⟩ := sameNow_some h
      refine ⟨h1, fun l sh a v hm hf => ?_⟩
      cases hm with
      | head => exact hs
      | tail _ hm => exact h2 l sh a v hm hf

theorem guarded_real {ρ : Type} {ops : Array Oper} {j : Nat} {sk want : Bool} {yes no : TM → M ρ} {t : TM} {m : Mem} {r : ρ × Mem} (h : guarded (guardOf ops.toList t j) sk want yes no t m = some r) :
    ∃ oj d, ops.toList[j]? = some oj ∧ oj.dst = some d ∧ ((yes t m = some r ∧ t.getD d .undef = .bool want) ∨ (no t m = some r ∧ (t.getD d .undef = .bool !want ∨ t.getD d .undef = .tup []))) := by
  unfold guardOf at h
  cases ho : ops.toList[j]? with
  | none => rw [ho] at h; simp [guarded, fail] at h
  | some o =>
    rw [ho] at h
    cases hd : o.dst with
    | none => simp [hd, guarded, fail] at h
    | some d =>
      simp only [hd] at h
      refine ⟨o, d, rfl, hd, ?_⟩
      generalize hv' : t.getD d .undef = v at h
      cases sk with
      | true =>
        simp only [guarded, if_true] at h
        split at h
        · exact .inr ⟨h, .inr rfl⟩
        · cases h
      | false =>
        have h' : (if want then mc v (yes (t.set d (.bool true))) (no (t.set d (.bool false))) else mc v (no (t.set d (.bool true))) (yes (t.set d (.bool false)))) m = some r := by
          simpa only [guarded, Bool.false_eq_true, if_false] using h
        have main : ∀ b, v = .bool b → t.set d (.bool b) = t := fun b hb => TM.set_self (by rw [hv', hb]) (by simp)
        cases want with
        | true =>
          obtain ⟨b, rfl, hk⟩ := mc_some (by simpa using h')
          cases b with
          | true => left; rw [main true rfl] at hk; exact ⟨by simpa using hk, rfl⟩
          | false => right; rw [main false rfl] at hk; exact ⟨by simpa using hk, .inl rfl⟩
        | false =>
          obtain ⟨b, rfl, hk⟩ := mc_some (by simpa using h')
          cases b with
          | true => right; rw [main true rfl] at hk; exact ⟨by simpa using hk, .inl rfl⟩
          | false => left; rw [main false rfl] at hk; exact ⟨by simpa using hk, rfl⟩

theorem yielded_of {ops : Array Oper} {j d : Nat} {oj : Oper} {g : Gm} {n : Nat} {t : TM} {a : Act} (ho : ops.toList[j]? = some oj) (hd : oj.dst = some d) (hv : VR g n (t.getD d .undef) (a.tmps.getD d Go.undef)) (hl : t.length ≤ a.tmps.size) :
    (∀ b, t.getD d .undef = .bool b → yielded ops a.tmps j = some b) ∧ (t.getD d .undef = .tup [] → yielded ops a.tmps j = none) := by
  have ho' : ops[j]? = some oj := by simpa using ho
  constructor
  · intro b hb
    rw [hb] at hv
    have hl : d < a.tmps.size := by
      rcases Nat.lt_or_ge d t.length with h1 | h1
      · exact Nat.lt_of_lt_of_le h1 hl
      · simp [List.getD_eq_getElem?_getD, List.getElem?_eq_none h1] at hb
    generalize hq : a.tmps.getD d Go.undef = x at hv
    cases hv
    simp [Array.getD_eq_getD_getElem?, hl] at hq
    simp [yielded, ho', hd, hl, hq]
  · intro hb
    rw [hb] at hv
    generalize hq : a.tmps.getD d Go.undef = x at hv
    cases hv with
    | tup _ xs hxs =>
      cases hxs
      simp only [yielded, ho', hd, Option.bind_some]
      cases hx : a.tmps[d]? with
      | none => rfl
      | some y =>
        simp [Array.getD_eq_getD_getElem?, hx] at hq
        subst hq; rfl

theorem class_le (op : Op) : opClass P op = 0 ∨ opClass P op = 1 ∨ opClass P op = 2 := by
  unfold opClass
  split <;> (try split) <;> simp

theorem class1 {op : Op} (h : opClass P op = 1) : ∃ ty x, op = .load ty x := by
  unfold opClass at h
  split at h <;> (try split at h) <;> first | exact ⟨_, _, rfl⟩ | (exact absurd h (by decide))

/-- The whole run from operation i on. -/
structure Trace (P : Program) (call : Nat → List AV → M AV) (all : List Oper) (bf : List Nat) (i : Nat) (ms : List (Nat × Mem)) (ls : List (Nat × Option Nat × AV × AV)) (T : Nat → TM) (Mm : Nat → Mem) (V : Nat → AV) (X : Nat → Bool) : Prop where
  did : ∀ q o, i ≤ q → all[q]? = some o → Did P call all (T q) (T (q + 1)) (Mm q) (Mm (q + 1)) (V q) (X q) o
  loads : ∀ q o, i ≤ q → all[q]? = some o → X q = true → opClass P o.op = 1 → ∃ sh a, Loads P (T q) o sh a ∧ load? sh a (Mm q) = some (V q) ∧
    (∀ h mh, (h, mh) ∈ ms → (bf.getD q 0).testBit h = false → load? sh a mh = some (V q)) ∧
    (∀ h oh, i ≤ h → h < q → all[h]? = some oh → opClass P oh.op = 2 → X h = true → (bf.getD q 0).testBit h = false → load? sh a (Mm h) = some (V q)) ∧
    (∀ h oh, q < h → all[h]? = some oh → opClass P oh.op = 2 → X h = true → (bf.getD h 0).testBit q = false → load? sh a (Mm (h + 1)) = some (V q))
  earlier : ∀ l sh a v, (l, sh, a, v) ∈ ls → ∀ h oh, i ≤ h → all[h]? = some oh → opClass P oh.op = 2 → X h = true → (bf.getD h 0).testBit l = false → load? sh a (Mm (h + 1)) = some v

/-- One operation more, ahead. -/
theorem Trace.cons {call : Nat → List AV → M AV} {all : List Oper} {bf : List Nat} {i : Nat} {ms ms' : List (Nat × Mem)} {ls ls' : List (Nat × Option Nat × AV × AV)} {T : Nat → TM} {Mm : Nat → Mem} {V : Nat → AV} {X : Nat → Bool}
    {t : TM} {m : Mem} {v : AV} {x : Bool} {o : Oper} (h : Trace P call all bf (i + 1) ms' ls' T Mm V X) (ho : all[i]? = some o) (hd : Did P call all t (T (i + 1)) m (Mm (i + 1)) v x o)
    (hms : ∀ p, p ∈ ms → p ∈ ms') (hls : ∀ p, p ∈ ls → p ∈ ls') (hheavy : opClass P o.op = 2 → x = true → (i, m) ∈ ms' ∧ ∀ l sh a u, (l, sh, a, u) ∈ ls → (bf.getD i 0).testBit l = false → load? sh a (Mm (i + 1)) = some u)
    (hload : opClass P o.op = 1 → x = true → ∃ sh a, Loads P t o sh a ∧ load? sh a m = some v ∧ (i, sh, a, v) ∈ ls' ∧ ∀ h mh, (h, mh) ∈ ms → (bf.getD i 0).testBit h = false → load? sh a mh = some v) :
    Trace P call all bf i ms ls (fun q => if q = i then t else T q) (fun q => if q = i then m else Mm q) (fun q => if q = i then v else V q) (fun q => if q = i then x else X q) where
  did := fun q oq hq hoq => by
    by_cases e : q = i
    · subst e
      rw [ho] at hoq; cases hoq
      simpa using hd
    · have := h.did q oq (by omega) hoq
      simpa [e, show ¬ q + 1 = i by omega] using this
  loads := fun q oq hq hoq hx hc => by
    by_cases e : q = i
    · subst e
      rw [ho] at hoq; cases hoq
      simp only [if_true] at hx
      obtain ⟨sh, a, h1, h2, h3, h4⟩ := hload hc hx
      refine ⟨sh, a, by simpa using h1, by simpa using h2, by simpa using h4, fun p op hp hp' => by omega, fun p op hp hop hcp hxp hbp => ?_⟩
      simp only [show ¬ p = q by omega, if_false] at hxp
      have := h.earlier q sh a v h3 p op (by omega) hop hcp hxp hbp
      simpa [show ¬ p + 1 = q by omega] using this
    · simp only [e, if_false] at hx
      obtain ⟨sh, a, h1, h2, h3, h4, h5⟩ := h.loads q oq (by omega) hoq hx hc
      refine ⟨sh, a, by simpa [e] using h1, by simpa [e] using h2, fun p mp hp hb => by simpa [e] using h3 p mp (hms _ hp) hb, fun p op hp hp' hop hcp hxp hbp => ?_, fun p op hp hop hcp hxp hbp => ?_⟩
      · by_cases ep : p = i
        · subst ep
          rw [ho] at hop; cases hop
          simp only [if_true] at hxp
          have := h3 p m (hheavy hcp hxp).1 hbp
          simpa [e] using this
        · simp only [ep, if_false] at hxp
          have := h4 p op (by omega) hp' hop hcp hxp hbp
          simpa [e, ep] using this
      · simp only [show ¬ p = i by omega, if_false] at hxp
        have := h5 p op hp hop hcp hxp hbp
        simpa [e, show ¬ p + 1 = i by omega] using this
  earlier := fun l sh a u hl p op hp hop hcp hxp hbp => by
    by_cases ep : p = i
    · subst ep
      rw [ho] at hop; cases hop
      simp only [if_true] at hxp
      have := (hheavy hcp hxp).2 l sh a u hl hbp
      simpa [show ¬ p + 1 = p by omega] using this
    · simp only [ep, if_false] at hxp
      have := h.earlier l sh a u (hls _ hl) p op (by omega) hop hcp hxp hbp
      simpa [show ¬ p + 1 = i by omega] using this

theorem wants_none {t : TM} {o : Oper} {ops : List Oper} (hg : o.guard = none) : ∀ (g : Gm) (n : Nat) (a : Act) (ops' : Array Oper), ops'.toList = ops → t.length ≤ a.tmps.size → (∀ j want d oj, o.guard = some (j, want) → ops[j]? = some oj → oj.dst = some d → VR g n (t.getD d .undef) (a.tmps.getD d Go.undef)) →
    Region.wanted o (yielded ops' a.tmps) = true := fun _ _ _ _ _ _ _ => by simp [Region.wanted, hg]
theorem wants_yes {t : TM} {o : Oper} {ops : List Oper} {j d : Nat} {want : Bool} {oj : Oper} (hg : o.guard = some (j, want)) (ho : ops[j]? = some oj) (hd : oj.dst = some d) (hv : t.getD d .undef = .bool want) :
    ∀ (g : Gm) (n : Nat) (a : Act) (ops' : Array Oper), ops'.toList = ops → t.length ≤ a.tmps.size → (∀ j want d oj, o.guard = some (j, want) → ops[j]? = some oj → oj.dst = some d → VR g n (t.getD d .undef) (a.tmps.getD d Go.undef)) →
    Region.wanted o (yielded ops' a.tmps) = true := fun g n a ops' he hl h => by
  have := (yielded_of (ops := ops') (by rw [he]; exact ho) hd (h j want d oj hg ho hd) hl).1 _ hv
  simp [Region.wanted, hg, this]
theorem wants_no {t : TM} {o : Oper} {ops : List Oper} {j d : Nat} {want : Bool} {oj : Oper} (hg : o.guard = some (j, want)) (ho : ops[j]? = some oj) (hd : oj.dst = some d) (hv : t.getD d .undef = .bool !want ∨ t.getD d .undef = .tup []) :
    ∀ (g : Gm) (n : Nat) (a : Act) (ops' : Array Oper), ops'.toList = ops → t.length ≤ a.tmps.size → (∀ j want d oj, o.guard = some (j, want) → ops[j]? = some oj → oj.dst = some d → VR g n (t.getD d .undef) (a.tmps.getD d Go.undef)) →
    Region.wanted o (yielded ops' a.tmps) = false := fun g n a ops' he hl h => by
  have hy := yielded_of (ops := ops') (by rw [he]; exact ho) hd (h j want d oj hg ho hd) hl
  rcases hv with hv | hv
  · have := hy.1 _ hv
    simp [Region.wanted, hg, this]
  · have := hy.2 hv
    simp [Region.wanted, hg, this]

theorem runDraw_trace {ρ : Type} {call : Nat → List AV → M AV} {all : List Oper} {bf : List Nat} {K : TM → M ρ} {r : ρ × Mem} : ∀ (os : List Oper) (sk i : Nat) (t : TM) (m : Mem) (ms : List (Nat × Mem)) (ls : List (Nat × Option Nat × AV × AV)),
    all.drop i = os → runDraw P call all bf sk i os ms ls K t m = some r → ∃ T Mm V X, T i = t ∧ Mm i = m ∧ K (T (i + os.length)) (Mm (i + os.length)) = some r ∧ Trace P call all bf i ms ls T Mm V X
  | [], sk, i, t, m, ms, ls, hd, h => by
    have hnone : ∀ q, i ≤ q → all[q]? = none := fun q hq => by
      have := congrArg (fun l => l[q - i]?) hd
      simpa [show i + (q - i) = q by omega] using this
    refine ⟨fun _ => t, fun _ => m, fun _ => .undef, fun _ => false, rfl, rfl, h, ?_, ?_, ?_⟩
    · intro q o hq ho; rw [hnone q hq] at ho; cases ho
    · intro q o hq ho; rw [hnone q hq] at ho; cases ho
    · intro l sh a v _ q o hq ho; rw [hnone q hq] at ho; cases ho
  | o :: os, sk, i, t, m, ms, ls, hd, h => by
    have ho : all[i]? = some o := by
      have := congrArg (fun l => l[0]?) hd
      simpa using this
    have hd' : all.drop (i + 1) = os := by rw [← List.drop_drop, hd]; rfl
    have hgo : ∀ (hw : ∀ (g : Gm) (n : Nat) (a : Act) (ops' : Array Oper), ops'.toList = all → t.length ≤ a.tmps.size → (∀ j want d oj, o.guard = some (j, want) → all[j]? = some oj → oj.dst = some d → VR g n (t.getD d .undef) (a.tmps.getD d Go.undef)) → Region.wanted o (yielded ops' a.tmps) = true),
        (match opClass P o.op with
        | 0 => aop P call o t fun v => runDraw P call all bf sk (i + 1) os ms ls K (t.put o.dst v)
        | 1 =>
          match o.op with
          | .load ty a =>
            (match shape? P ty with
            | some sh => bnd (load sh (t.ev a)) fun v => sameIn (bf.getD i 0) sh (t.ev a) v ms (runDraw P call all bf sk (i + 1) os ms ((i, sh, t.ev a, v) :: ls) K (t.put o.dst v))
            | none => fail)
          | _ => fail
        | _ => snap fun m => aop P call o t fun v => snap fun m' => sameNow (bf.getD i 0) m' ls (runDraw P call all bf sk (i + 1) os ((i, m) :: ms) ls K (t.put o.dst v))) m = some r →
        ∃ T Mm V X, T i = t ∧ Mm i = m ∧ K (T (i + (o :: os).length)) (Mm (i + (o :: os).length)) = some r ∧ Trace P call all bf i ms ls T Mm V X := by
      intro hw h
      have fin : ∀ {ms' : List (Nat × Mem)} {ls' : List (Nat × Option Nat × AV × AV)} {T : Nat → TM} {Mm : Nat → Mem} {V : Nat → AV} {X : Nat → Bool} {v : AV} {m' : Mem}, T (i + 1) = t.put o.dst v → Mm (i + 1) = m' → K (T (i + 1 + os.length)) (Mm (i + 1 + os.length)) = some r → Trace P call all bf i ms ls (fun q => if q = i then t else T q) (fun q => if q = i then m else Mm q) (fun q => if q = i then v else V q) (fun q => if q = i then true else X q) →
          ∃ T Mm V X, T i = t ∧ Mm i = m ∧ K (T (i + (o :: os).length)) (Mm (i + (o :: os).length)) = some r ∧ Trace P call all bf i ms ls T Mm V X := by
        intro ms' ls' T Mm V X v m' h1 h2 h3 h4
        refine ⟨_, _, _, _, ?_, ?_, ?_, h4⟩
        · simp
        · simp
        · have : ¬ i + (o :: os).length = i := by simp
          simp only [this, if_false, List.length_cons]
          rw [show i + (os.length + 1) = i + 1 + os.length by omega]
          simpa [show ¬ i + 1 + os.length = i by omega] using h3
      rcases class_le o.op with hc | hc | hc
      · rw [hc] at h
        obtain ⟨v, m1, hk, hdet⟩ := aop_det h
        obtain ⟨x, hx⟩ := class0 (P := P) (call := call) hc t
        obtain ⟨v', rfl⟩ : ∃ v', x = some v' := by
          cases x with
          | some v' => exact ⟨v', rfl⟩
          | none => rw [hx] at h; cases h
        have e1 : (v, m1) = (v', m) := by
          have h1 := hdet (σ := AV) ret
          rw [hx] at h1
          simpa [lp, ret] using h1.symm
        cases e1
        obtain ⟨T, Mm, V, X, hT, hM, hK, hTr⟩ := runDraw_trace os _ (i + 1) _ _ ms ls hd' hk
        refine fin (ms' := ms) (ls' := ls) hT hM hK (hTr.cons ho (v := v) ⟨hT, hw, fun e => (by cases e), fun _ => hM, fun _ _ q σ k => by rw [hx]; rfl, fun _ e => by omega⟩ (fun _ h => h) (fun _ h => h) (fun e => by omega) (fun e => by omega))
      · rw [hc] at h
        obtain ⟨ty, x, hop⟩ := class1 hc
        simp only [hop] at h
        generalize hsh : shape? P ty = osh at h
        cases osh with
        | none => cases h
        | some sh =>
          obtain ⟨v, m1, hv, hk⟩ := bnd_some h
          unfold load at hv
          obtain ⟨u, hu, hq⟩ := Option.map_eq_some_iff.1 hv
          cases hq
          obtain ⟨hk, hin⟩ := sameIn_some hk
          obtain ⟨T, Mm, V, X, hT, hM, hK, hTr⟩ := runDraw_trace os _ (i + 1) _ _ ms _ hd' hk
          refine fin (ms' := ms) (ls' := ls) hT hM hK (hTr.cons ho (v := v) ⟨hT, hw, fun e => (by cases e), fun _ => hM, fun _ e => by omega, fun _ e => by omega⟩ (fun _ h => h) (fun _ h => .tail _ h) (fun e => by omega)
            (fun _ _ => ⟨sh, t.ev x, ⟨ty, x, hop, hsh, rfl⟩, hu, .head _, hin⟩))
      · rw [hc] at h
        have h' : (aop P call o t fun v => snap fun m' => sameNow (bf.getD i 0) m' ls (runDraw P call all bf sk (i + 1) os ((i, m) :: ms) ls K (t.put o.dst v))) m = some r := h
        obtain ⟨v, m1, hk, hdet⟩ := aop_det h'
        have hk' : sameNow (bf.getD i 0) m1 ls (runDraw P call all bf sk (i + 1) os ((i, m) :: ms) ls K (t.put o.dst v)) m1 = some r := hk
        obtain ⟨hk, hnow⟩ := sameNow_some hk'
        obtain ⟨T, Mm, V, X, hT, hM, hK, hTr⟩ := runDraw_trace os _ (i + 1) _ _ _ ls hd' hk
        refine fin (ms' := (i, m) :: ms) (ls' := ls) hT hM hK (hTr.cons ho (v := v) ⟨hT, hw, fun e => (by cases e), fun e => absurd hc e, fun _ e => by omega, fun _ _ σ k => by rw [hM]; exact hdet k⟩ (fun _ h => .tail _ h) (fun _ h => h)
          (fun _ _ => ⟨.head _, fun l sh a u hl hb => by rw [hM]; exact hnow l sh a u hl hb⟩) (fun e => by omega))
    unfold runDraw at h
    cases hg : o.guard with
    | none =>
      rw [hg] at h
      exact hgo (wants_none hg) h
    | some jw =>
      obtain ⟨j, want⟩ := jw
      rw [hg] at h
      obtain ⟨oj, d, hoj, hdj, hor⟩ := guarded_real (ops := all.toArray) h
      have hoj : all[j]? = some oj := by simpa using hoj
      rcases hor with ⟨h, hv⟩ | ⟨h, hv⟩
      · exact hgo (wants_yes hg hoj hdj hv) h
      · obtain ⟨T, Mm, V, X, hT, hM, hK, hTr⟩ := runDraw_trace os _ (i + 1) _ _ _ ls hd' h
        refine ⟨_, _, _, _, ?_, ?_, ?_, hTr.cons ho (t := t) (m := m) (v := .tup []) (x := false) ⟨hT, wants_no hg hoj hdj hv, fun _ => ⟨rfl, hM⟩, fun _ => hM, fun e => (by cases e), fun e => (by cases e)⟩ (fun _ h => h) (fun _ h => h) (fun _ e => by cases e) (fun _ e => by cases e)⟩
        · simp
        · simp
        · have : ¬ i + (o :: os).length = i := by simp
          simp only [this, if_false, List.length_cons]
          rw [show i + (os.length + 1) = i + 1 + os.length by omega]
          simpa [show ¬ i + 1 + os.length = i by omega] using hK

end Go.Proofs.YtooogfnmhfocjaaDoor.Spl
