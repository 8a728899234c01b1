/- The abstract machine: Go code run over a memory without capacities, block numbers or drawn orders. Definitions only. -/
import Derived.Calls
import Derived.Below
import Derived.MapKept
namespace Go.Proofs.YtooogfnmhfocjaaGreatDoor.Spl
open Go
set_option linter.unusedVariables false

/-- Values of the abstract machine: addresses are object numbers, slices bear no capacity. -/
inductive AV where
  | undef
  | bool (b : Bool)
  | int (k : IntKind) (n : Int)
  | str (s : ByteArray)
  | nilptr
  | ptr (i o : Nat)
  | anyptr
  | nilslice
  | slice (i o len es : Nat)
  | dang
  | func (fn : Fn) (first captured : List AV)
  | nilfunc
  | iface (t : TypeId) (v : AV)
  | nilface
  | agg (cs : List AV)
  | tup (cs : List AV)
  | mp (i : Nat)
  deriving Inhabited

mutual
/-- Are values one? (told of few) -/
def AV.eqb : AV → AV → Bool
  | .undef, .undef => true
  | .bool a, .bool b => a == b
  | .int k a, .int k' b => decide (k = k') && decide (a = b)
  | .str a, .str b => decide (a = b)
  | .nilptr, .nilptr => true
  | .ptr i o, .ptr j p => Nat.beq i j && Nat.beq o p
  | .nilslice, .nilslice => true
  | .slice i o l e, .slice i' o' l' e' => Nat.beq i i' && Nat.beq o o' && Nat.beq l l' && Nat.beq e e'
  | .dang, .dang => true
  | .nilfunc, .nilfunc => true
  | .nilface, .nilface => true
  | .agg a, .agg b => AV.eqbs a b
  | .tup a, .tup b => AV.eqbs a b
  | .mp i, .mp j => Nat.beq i j
  | _, _ => false
def AV.eqbs : List AV → List AV → Bool
  | [], [] => true
  | a :: as, b :: bs => AV.eqb a b && AV.eqbs as bs
  | _, _ => false
end

inductive AObj where
  | dead
  | cells (ty : TypeId) (fz : Nat) (cs : List AV)
  | other (o : Obj)
  deriving Inhabited

structure Mem where
  base : Nat
  next : Nat
  get : Nat → AObj

def Mem.set (m : Mem) (i : Nat) (o : AObj) : Mem := { m with get := fun j => if j = i then o else m.get j }
def Mem.alloc (m : Mem) (o : AObj) : Mem := { m with next := m.next + 1, get := fun j => if j = m.next then o else m.get j }

abbrev M (α : Type) := Mem → Option (α × Mem)
def ret {α : Type} (a : α) : M α := fun m => some (a, m)
def fail {α : Type} : M α := fun _ => none
def bnd {α β : Type} (x : M α) (k : α → M β) : M β := fun m =>
  match x m with
  | some (a, m') => k a m'
  | none => none
def lp {α β : Type} (x : Option α) (k : α → M β) : M β :=
  match x with
  | some a => k a
  | none => fail
def snap {α : Type} (k : Mem → M α) : M α := fun m => k m m

/-- A branch at a bool. -/
def mc {ρ : Type} (v : AV) (a b : M ρ) : M ρ :=
  match v with
  | .bool true => a
  | .bool false => b
  | _ => fail

abbrev TM := List AV
def TM.put (t : TM) (d : Option Tmp) (v : AV) : TM :=
  match d with
  | some i => t.set i v
  | none => t

def Value.sc : Value → AV
  | .bool b => .bool b
  | .int k n => .int k n
  | .string s => .str s
  | .pointer none => .nilptr
  | .slice none 0 0 => .nilslice
  | .nilFunc => .nilfunc
  | .nilIface => .nilface
  | _ => .undef
def Value.av : Value → AV
  | .agg cs => .agg (cs.toList.map Value.sc)
  | v => Value.sc v

def TM.ev (t : TM) : Operand → AV
  | .tmp i => t.getD i .undef
  | .const v => Value.av v
  | .global _ => .undef
  | .func f => .func (.func f) [] []

/-- Is it the value of one cell? -/
def AV.one : AV → Bool
  | .undef | .agg _ | .tup _ => false
  | _ => true
def AV.cells? : AV → Option (List AV)
  | .agg cs => some cs
  | .undef | .tup _ => none
  | v => some [v]

/-- The cells of a type's zero value. -/
def zeroCells? (P : Program) (t : TypeId) : Option (List AV) :=
  match (P.info? t).bind (·.zero) with
  | some v => (Value.av v).cells?
  | none => none
/-- none: one cell; some n: a struct or an array of n cells. -/
def shape? (P : Program) (t : TypeId) : Option (Option Nat) :=
  match P.underlying t, P.info? t with
  | some (.struct _), some i | some (.array _ _), some i => some (some i.size)
  | some _, some i => if i.size = 1 then some none else none
  | _, _ => none
def size? (P : Program) (t : TypeId) : Option Nat := (P.info? t).map (·.size)

/-! pure operations -/

def b2 (k : IntKind) (op : BinOp) (a b : Int) : Option AV :=
  match op with
  | .add => some (.int k (k.wrap (a + b)))
  | .sub => some (.int k (k.wrap (a - b)))
  | .mul => some (.int k (k.wrap (a * b)))
  | .quo => if b = 0 then none else some (.int k (k.wrap (a.tdiv b)))
  | .rem => if b = 0 then none else some (.int k (a.tmod b))
  | .and => some (.int k (k.wrap (BitVec.ofInt k.bits a &&& BitVec.ofInt k.bits b).toNat))
  | .or => some (.int k (k.wrap (BitVec.ofInt k.bits a ||| BitVec.ofInt k.bits b).toNat))
  | .xor => some (.int k (k.wrap (BitVec.ofInt k.bits a ^^^ BitVec.ofInt k.bits b).toNat))
  | .andNot => some (.int k (k.wrap (BitVec.ofInt k.bits a &&& ~~~(BitVec.ofInt k.bits b)).toNat))
  | .eql => some (.bool (a == b))
  | .neq => some (.bool (a != b))
  | .lss => some (.bool (decide (a < b)))
  | .leq => some (.bool (decide (a ≤ b)))
  | .gtr => some (.bool (decide (a > b)))
  | .geq => some (.bool (decide (a ≥ b)))
  | _ => none

def sh2 (k : IntKind) (op : BinOp) (a b : Int) : Option AV :=
  if b < 0 then none else
  match op with
  | .shl => some (.int k (k.wrap (a * 2 ^ (min b.toNat k.bits))))
  | .shr => some (.int k (a.fdiv (2 ^ (min b.toNat k.bits))))
  | _ => none

def strEq (a b : ByteArray) : Bool := a.toList == b.toList

def s2 (op : BinOp) (a b : ByteArray) : Option AV :=
  match op with
  | .add => if ((a.size + b.size : Nat) : Int) > IntKind.i64.max then none else some (.str (a ++ b))
  | .eql => some (.bool (strEq a b))
  | .neq => some (.bool (!strEq a b))
  | .lss => some (.bool (Op.bytesLess a.toList b.toList))
  | .leq => some (.bool (Op.bytesLess a.toList b.toList || strEq a b))
  | .gtr => some (.bool !(Op.bytesLess a.toList b.toList || strEq a b))
  | .geq => some (.bool !(Op.bytesLess a.toList b.toList))
  | _ => none

/-- Equality of two values of one cell; k says of what kind their type is. -/
def eqF (k : Nat) (x y : AV) : Option Bool :=
  match k, x, y with
  | 1, .bool a, .bool b => some (a == b)
  | 6, .int k a, .int k' b => if k = k' then some (a == b) else none
  | 7, .str a, .str b => some (strEq a b)
  | 3, .nilptr, .nilptr => some true
  | 3, .nilptr, .ptr _ _ => some false
  | 3, .ptr _ _, .nilptr => some false
  | 3, .ptr i o, .ptr j p => if i = j then some (o == p) else none
  | 4, .nilslice, .nilslice => some true
  | 4, .nilslice, .slice _ _ _ _ => some false
  | 4, .slice _ _ _ _, .nilslice => some false
  | 4, .dang, .nilslice => some false
  | 4, .nilslice, .dang => some false
  | 5, .nilfunc, .nilfunc => some true
  | 5, .nilfunc, .func _ _ _ => some false
  | 5, .func _ _ _, .nilfunc => some false
  | _, _, _ => none

/-- Equality of structs whose fields are one cell each. -/
def eqCells : List Nat → List AV → List AV → Option Bool
  | [], [], [] => some true
  | k :: ks, a :: as, b :: bs =>
    match eqF k a b with
    | some true => eqCells ks as bs
    | some false => some false
    | none => none
  | _, _, _ => none

def kindOf (P : Program) (t : TypeId) : Nat :=
  match P.underlying t with
  | some .bool => 1
  | some (.int _) => 6
  | some .string => 7
  | some (.pointer e) => if (size? P e).getD 0 = 0 then 0 else 3
  | some (.slice _) => 4
  | some (.func _ _ _) => 5
  | _ => 0

/-- The fields are one cell each, one behind the other from cell i on, none blank. -/
def fieldsPlain (P : Program) : Nat → List Field → Bool
  | _, [] => true
  | i, f :: fs => f.name != "_" && f.offset == i && shape? P f.type == some none && fieldsPlain P (i + 1) fs

/-- The kinds of a comparison. -/
def eqKind (P : Program) (t : TypeId) : List Nat :=
  match P.underlying t with
  | some (.struct fs) => if !P.stoodInHeld t && !P.eqGuardType P.depth t && fieldsPlain P 0 fs.toList then 2 :: fs.toList.map (fun f => kindOf P f.type) else []
  | _ => [kindOf P t]

def aEq (ek : List Nat) (x y : AV) : Option Bool :=
  match ek, x, y with
  | 2 :: ks, .agg a, .agg b => eqCells ks a b
  | [k], x, y => eqF k x y
  | _, _, _ => none

/-- A binary operator; ek: the kind of comparison of its operands' type. -/
def aBin (op : BinOp) (ek : List Nat) (x y : AV) : Option AV :=
  match op, x, y with
  | .shl, .int k a, .int _ b => sh2 k .shl a b
  | .shr, .int k a, .int _ b => sh2 k .shr a b
  | op, .int k a, .int k' b => if k = k' then b2 k op a b else none
  | op, .str a, .str b => s2 op a b
  | .eql, x, y => (aEq ek x y).map .bool
  | .neq, x, y => (aEq ek x y).map fun b => .bool !b
  | _, _, _ => none

def aUn (op : UnOp) (x : AV) : Option AV :=
  match op, x with
  | .neg, .int k n => some (.int k (k.wrap (0 - n)))
  | .xor, .int k n => some (.int k (k.wrap (BitVec.ofInt k.bits (if k.signed then -1 else k.max) ^^^ BitVec.ofInt k.bits n).toNat))
  | .not, .bool b => some (.bool !b)
  | _, _ => none

def aPick (c a b : AV) : Option AV :=
  match c with
  | .bool true => some a
  | .bool false => some b
  | _ => none

def aNil (x : AV) : Option AV :=
  match x with
  | .ptr i o => some (.ptr i o)
  | .func (.func f) a b => some (.func (.func f) a b)
  | _ => none

/-- x, moved by so many cells. -/
def aOff (off : Nat) (x : AV) : Option AV :=
  match x with
  | .ptr i o => some (.ptr i (o + off))
  | _ => none

/-- The address of an element of a slice. -/
def aIdxS (size : Nat) (x ix : AV) : Option AV :=
  match x, ix with
  | .slice i o len _, .int _ n => if 0 ≤ n ∧ n < len then some (.ptr i (o + n.toNat * size)) else none
  | _, _ => none
/-- The address of an element of an array behind a pointer. -/
def aIdxA (len size : Nat) (x ix : AV) : Option AV :=
  match x, ix with
  | .ptr i o, .int _ n => if 0 ≤ n ∧ n < len then some (.ptr i (o + n.toNat * size)) else none
  | _, _ => none

def aPart (sh : Option Nat) (cs : List AV) (off : Nat) : Option AV :=
  match sh with
  | some n => if off + n ≤ cs.length then some (.agg ((cs.drop off).take n)) else none
  | none => cs[off]?
def aFld (sh : Option Nat) (off : Nat) (x : AV) : Option AV :=
  match x with
  | .agg cs => aPart sh cs off
  | _ => none
/-- An element of an array value. -/
def aIdxV (len size : Nat) (sh : Option Nat) (x ix : AV) : Option AV :=
  match x, ix with
  | .agg cs, .int _ n => if 0 ≤ n ∧ n < len then aPart sh cs (n.toNat * size) else none
  | _, _ => none
/-- A byte of a string. -/
def aIdxStr (x ix : AV) : Option AV :=
  match x, ix with
  | .str s, .int _ n => if 0 ≤ n then (s[n.toNat]?).map fun b => .int .u8 b.toNat else none
  | _, _ => none

def aExt (ix : Nat) (x : AV) : Option AV :=
  match x with
  | .tup vs => vs[ix]?
  | _ => none

def aLenStr : AV → Option AV
  | .str s => some (.int .i64 s.size)
  | _ => none
def aLenS : AV → Option AV
  | .nilslice | .dang => some (.int .i64 0)
  | .slice _ _ n _ => some (.int .i64 n)
  | _ => none

def aMin2 (x y : AV) : Option AV :=
  match x, y with
  | .int k a, .int _ b => some (.int k (if b < a then b else a))
  | _, _ => none
def aMax2 (x y : AV) : Option AV :=
  match x, y with
  | .int k a, .int _ b => some (.int k (if b > a then b else a))
  | _, _ => none
def aFold (f : AV → AV → Option AV) : AV → List AV → Option AV
  | x, [] => some x
  | x, y :: ys => match f x y with | some z => aFold f z ys | none => none

def lowOf : Option AV → Option Int
  | none => some 0
  | some (.int _ n) => some n
  | _ => none
def highOf (len : Nat) : Option AV → Option Int
  | none => some len
  | some (.int _ n) => some n
  | _ => none

def aInt (kd : IntKind) : AV → Option AV
  | .int _ n => some (.int kd (kd.wrap n))
  | _ => none
def aStr : AV → Option AV
  | .str s => some (.str s)
  | _ => none
/-- A part of a string. -/
def aSliceStr (x : AV) (lo hi : Option AV) : Option AV :=
  match x with
  | .str s =>
    match lowOf lo, highOf s.size hi with
    | some l, some h => if 0 ≤ l ∧ l ≤ h ∧ h ≤ s.size then some (.str (s.extract l.toNat h.toNat)) else none
    | _, _ => none
  | _ => none
/-- A part of a slice (elements of size cells). -/
def aSlice (size : Nat) (x : AV) (lo hi : Option AV) : Option AV :=
  match x with
  | .nilslice =>
    match lowOf lo, highOf 0 hi with
    | some l, some h => if l = 0 ∧ h = 0 then some .nilslice else none
    | _, _ => none
  | .dang =>
    match lowOf lo, highOf 0 hi with
    | some l, some h => if l = 0 ∧ h = 0 then some .dang else none
    | _, _ => none
  | .slice i o len es =>
    match lowOf lo, highOf len hi with
    | some l, some h =>
      if 0 ≤ l ∧ l ≤ h ∧ h ≤ len then
        if l = 0 then some (.slice i o h.toNat es)
        else if l = h then some .dang
        else some (.slice i (o + l.toNat * size) (h - l).toNat (if es = size then es else 0))
      else none
    | _, _ => none
  | _ => none
/-- A part of an array behind a pointer: n elements of size cells. -/
def aSliceA (n size : Nat) (x : AV) (lo hi : Option AV) : Option AV :=
  match x with
  | .ptr i o =>
    match lowOf lo, highOf n hi with
    | some l, some h =>
      if 0 ≤ l ∧ l ≤ h ∧ h ≤ n then
        if l = 0 then some (.slice i o h.toNat 0)
        else if l = h then some .dang
        else some (.slice i (o + l.toNat * size) (h - l).toNat 0)
      else none
    | _, _ => none
  | _ => none

/-- Cells written over others from a place on. -/
def splice (cs : List AV) (o : Nat) : List AV → List AV
  | [] => cs
  | v :: vs => splice (cs.set o v) (o + 1) vs

/-- A struct's or array's cells with its parts put in. -/
def aFill (place : Nat → Option (Nat × Nat)) (cells : List AV) : List (Nat × AV) → Option (List AV)
  | [] => some cells
  | (i, v) :: rest =>
    match place i, v.cells? with
    | some (off, size), some vs => if vs.length = size ∧ off + vs.length ≤ cells.length then aFill place (splice cells off vs) rest else none
    | _, _ => none

/-! what is kept in memory is worked out first (nothing changes by it) -/

def forceNat {α : Type} (n : Nat) (k : Nat → α) : α :=
  match n with
  | 0 => k 0
  | p + 1 => k (p + 1)
theorem forceNat_eq {α : Type} (n : Nat) (k : Nat → α) : forceNat n k = k n := by cases n <;> rfl
def forceInt {α : Type} (n : Int) (k : Int → α) : α :=
  match n with
  | .ofNat m => forceNat m fun m => k (.ofNat m)
  | .negSucc m => forceNat m fun m => k (.negSucc m)
theorem forceInt_eq {α : Type} (n : Int) (k : Int → α) : forceInt n k = k n := by cases n <;> simp [forceInt, forceNat_eq]
def forceAV {α : Type} (v : AV) (k : AV → α) : α :=
  match v with
  | .int kd n => forceInt n fun n => k (.int kd n)
  | .bool true => k (.bool true)
  | .bool false => k (.bool false)
  | .ptr i o => forceNat i fun i => forceNat o fun o => k (.ptr i o)
  | .slice i o l e => forceNat i fun i => forceNat o fun o => forceNat l fun l => forceNat e fun e => k (.slice i o l e)
  | v => k v
theorem forceAV_eq {α : Type} (v : AV) (k : AV → α) : forceAV v k = k v := by
  cases v <;> simp [forceAV, forceInt_eq, forceNat_eq]
  rename_i b
  cases b <;> rfl
def forceList {α : Type} (l : List AV) (k : List AV → α) : α :=
  match l with
  | [] => k []
  | v :: vs => forceAV v fun v => forceList vs fun vs => k (v :: vs)
theorem forceList_eq {α : Type} : ∀ (l : List AV) (k : List AV → α), forceList l k = k l
  | [], k => rfl
  | v :: vs, k => by simp only [forceList, forceAV_eq]; exact forceList_eq vs _

/-! memory -/

def Mem.cells? (m : Mem) (i : Nat) : Option (List AV) :=
  match m.get i with
  | .cells _ _ cs => some cs
  | _ => none

def load? (sh : Option Nat) (a : AV) (m : Mem) : Option AV :=
  match a with
  | .ptr i o =>
    match m.cells? i with
    | some cs => aPart sh cs o
    | none => none
  | _ => none
def load (sh : Option Nat) (a : AV) : M AV := fun m => (load? sh a m).map fun v => (v, m)

def alloc (ty : TypeId) (cs : List AV) : M AV := fun m => forceNat m.next fun i => forceList cs fun cs => some (.ptr i 0, { m with next := i + 1, get := fun j => if j = i then .cells ty 0 cs else m.get j })
theorem alloc_def (ty : TypeId) (cs : List AV) : alloc ty cs = fun m => some (.ptr m.next 0, m.alloc (.cells ty 0 cs)) := by funext m; simp only [alloc, forceList_eq, forceNat_eq]; rfl
def box (ty : TypeId) (v : AV) : M AV :=
  match v.cells? with
  | some cs => alloc ty cs
  | none => fail
def allocS (ty : TypeId) (es len : Nat) (cs : List AV) : M AV := fun m => forceNat m.next fun i => forceNat len fun len => forceList cs fun cs => some (.slice i 0 len es, { m with next := i + 1, get := fun j => if j = i then .cells ty 0 cs else m.get j })
theorem allocS_def (ty : TypeId) (es len : Nat) (cs : List AV) : allocS ty es len cs = fun m => some (.slice m.next 0 len es, m.alloc (.cells ty 0 cs)) := by funext m; simp only [allocS, forceList_eq, forceNat_eq]; rfl

/-- Cells stored at an address of the call's own. -/
def storeCs (a : AV) (vs : List AV) : M Unit := fun m =>
  match a with
  | .ptr i o =>
    match m.get i with
    | .cells ty fz cs => if m.base ≤ i ∧ fz ≤ o ∧ o + vs.length ≤ cs.length ∧ vs.all AV.one then forceList (splice cs o vs) fun cs => forceNat i fun i => some ((), m.set i (.cells ty fz cs)) else none
    | _ => none
  | _ => none
def store (sh : Option Nat) (a v : AV) : M AV :=
  match sh, v with
  | none, v => if v.one then bnd (storeCs a [v]) fun _ => ret .undef else fail
  | some n, .agg cs => if cs.length = n then bnd (storeCs a cs) fun _ => ret .undef else fail
  | _, _ => fail

def byteCells (s : ByteArray) : List AV := s.data.toList.map fun b => .int .u8 b.toNat

/-- The first n elements of a slice or string, as cells. -/
def elems (size n : Nat) (x : AV) (m : Mem) : Option (List AV) :=
  match x with
  | .slice i o len _ =>
    match m.cells? i with
    | some cs => if n ≤ len ∧ o + n * size ≤ cs.length then some ((cs.drop o).take (n * size)) else none
    | none => none
  | .nilslice | .dang => if n = 0 then some [] else none
  | .str s => if size = 1 ∧ n ≤ s.size then some ((byteCells s).take n) else none
  | _ => none
def count : AV → Option Nat
  | .slice _ _ n _ => some n
  | .nilslice | .dang => some 0
  | .str s => some s.size
  | _ => none

/-- append: ty the element's type, of es cells and so many bytes. -/
def append (ty es bytes : Nat) (s x : AV) : M AV := fun m =>
  match count x with
  | none => none
  | some n =>
    match elems es n x m with
    | none => none
    | some news =>
      if news.all AV.one = false then none else
      match s with
      | .nilslice => if n = 0 then some (.nilslice, m) else if n * bytes ≤ 2 ^ 45 then forceList news fun cs => forceNat m.next fun j => forceNat n fun n => some (.slice j 0 n es, { m with next := j + 1, get := fun k => if k = j then .cells ty 0 cs else m.get k }) else none
      | .dang => if n = 0 then some (.dang, m) else none
      | .slice i o len es' =>
        if n = 0 then some (.slice i o len es', m) else
        match m.get i with
        | .cells ty' fz cs =>
          if m.base ≤ i ∧ o = 0 ∧ es' = es ∧ ty' = ty ∧ fz ≤ cs.length ∧ cs.length = len * es ∧ (len + n) * bytes ≤ 2 ^ 45 then
            forceList (cs ++ news) fun cs => forceNat m.next fun j => forceNat (len + n) fun ln => some (.slice j 0 ln es, { m with next := j + 1, get := fun k => if k = j then .cells ty fz cs else if k = i then .dead else m.get k })
          else none
        | _ => none
      | _ => none

/-- copy. -/
def copy (size : Nat) (d x : AV) : M AV := fun m =>
  match count x, d with
  | some k, .slice i o len _ =>
    match elems size (min k len) x m with
    | some cs => (storeCs (.ptr i o) cs m).map fun (_, m') => (.int .i64 (min k len : Nat), m')
    | none => none
  | some _, .nilslice => some (.int .i64 0, m)
  | some _, .dang => some (.int .i64 0, m)
  | _, _ => none

/-- make of a slice; z: the element's zero cells. -/
def mkSlice (ty es bytes : Nat) (z : List AV) (len cap : AV) : M AV :=
  match len, cap with
  | .int .i64 l, .int .i64 c => if 0 ≤ l ∧ l ≤ c ∧ (bytes : Int) * c ≤ 2 ^ 45 ∧ z.length = es then allocS ty es l.toNat ((List.replicate l.toNat z).flatten) else fail
  | _, _ => fail

/-- []byte(s) -/
def toBytes (ty : TypeId) (x : AV) : M AV := fun m =>
  match x with
  | .str s => some (.slice m.next 0 s.size 1, m.alloc (.cells ty (s.size + 1) (byteCells s)))
  | _ => none
def ofByteCells : List AV → Option (List UInt8)
  | [] => some []
  | .int .u8 n :: rest => (ofByteCells rest).map fun l => UInt8.ofNat n.toNat :: l
  | _ => none
/-- string(b) -/
def countS : AV → Option Nat
  | .slice _ _ n _ => some n
  | .nilslice | .dang => some 0
  | _ => none
def ofBytes (x : AV) : M AV := fun m =>
  match countS x with
  | some n =>
    match elems 1 n x m with
    | some cs => (ofByteCells cs).map fun l => (.str ⟨l.toArray⟩, m)
    | none => none
  | none => none

/-- unsafe.SliceData -/
def sliceData (x : AV) : M AV := fun m =>
  match x with
  | .nilslice => some (.nilptr, m)
  | .slice i o len _ => if 0 < len then some (.ptr i o, m) else (m.cells? i).map fun _ => (.anyptr, m)
  | _ => none
/-- unsafe.String of an own row of bytes; ty: the bytes' type -/
def unsafeStr (ty : TypeId) (p n : AV) : M AV := fun m =>
  match p, n with
  | .nilptr, .int .i64 n => if n = 0 then some (.str .empty, m) else none
  | .anyptr, .int .i64 n => if n = 0 then some (.str .empty, m) else none
  | .ptr i o, .int .i64 n =>
    if n = 0 then some (.str .empty, m) else
    match m.get i with
    | .cells ty' fz cs =>
      if m.base ≤ i ∧ ty' = ty ∧ fz ≤ cs.length ∧ 0 ≤ n ∧ n ≤ IntKind.i64.max ∧ o = 0 ∧ n.toNat ≤ cs.length then
        (ofByteCells (cs.take n.toNat)).map fun l => (.str ⟨l.toArray⟩, m.set i (.cells ty' (max fz n.toNat) cs))
      else none
    | _ => none
  | _, _ => none

/-- A pointer turned to unsafe.Pointer. -/
def toUnsafe (x : AV) : M AV := fun m =>
  match x with
  | .ptr i o =>
    match m.cells? i with
    | some cs => if o < cs.length then some (.ptr i o, m) else none
    | none => none
  | _ => none
/-- unsafe.Pointer turned to a pointer; lies: does such a variable lie at that offset of a block of that type? -/
def fromUnsafe (size : TypeId → Nat) (lies : TypeId → Nat → Bool) (x : AV) : M AV := fun m =>
  match x with
  | .ptr i o =>
    match m.get i with
    | .cells ty _ cs => if m.base ≤ i ∧ 0 < size ty ∧ size ty ≤ cs.length ∧ lies ty o = true then some (.ptr i o, m) else none
    | _ => none
  | _ => none

/-! maps, and strings gone over -/

/-- A key, or what stands at it, as Go's. -/
def AV.key? : AV → Option Value
  | .int k n => some (.int k n)
  | .str s => some (.string s)
  | .bool b => some (.bool b)
  | _ => none
def backKey : Value → Option AV
  | .int k n => some (.int k n)
  | .string s => some (.str s)
  | .bool b => some (.bool b)
  | _ => none
/-- Is it a key of such a type? -/
def isKey : Option TypeDesc → Value → Bool
  | some (.int k), .int k' _ => decide (k = k')
  | some .string, .string _ => true
  | some .bool, .bool _ => true
  | _, _ => false
def mapFind (P : Program) (kt : TypeId) (k : Value) (es : List MapEntry) : Option (Option (Nat × Value)) :=
  match P.underlying kt with
  | some d => if isKey (some d) k then Instr.findNow d k es 0 else none
  | none => none
def newMap : M AV := fun m => some (.mp m.next, m.alloc (.other (.map #[] 0)))
/-- m[k]; z: the zero value. -/
def mapGet (P : Program) (kt : TypeId) (z : AV) (ok : Bool) (x k : AV) : M AV := fun m =>
  match x, k.key? with
  | .mp i, some kv =>
    match m.get i with
    | .other (.map es _) =>
      if m.base ≤ i then
        match mapFind P kt kv es.toList with
        | some (some (_, v)) => (backKey v).map fun a => (if ok then .tup [a, .bool true] else a, m)
        | some none => some (if ok then .tup [z, .bool false] else z, m)
        | none => none
      else none
    | _ => none
  | _, _ => none
/-- m[k] = v -/
def mapPut (P : Program) (kt : TypeId) (x k v : AV) : M AV := fun m =>
  match x, k.key?, v.key? with
  | .mp i, some kv, some vv =>
    match m.get i with
    | .other (.map es clock) =>
      if m.base ≤ i then
        match mapFind P kt kv es.toList with
        | some (some (j, _)) =>
          if Instr.sameBits 10000 (((es[j]?).map (·.key)).getD kv) kv then some (.undef, m.set i (.other (.map (es.modify j fun e => { e with key := kv, val := vv }) clock))) else none
        | some none => some (.undef, m.set i (.other (.map (es.push { key := kv, val := vv, born := clock }) (clock + 1))))
        | none => none
      else none
    | _ => none
  | _, _, _ => none
/-- A string is gone over. -/
def rangeStr (x : AV) : M AV := fun m =>
  match x with
  | .str s => some (.ptr m.next 0, m.alloc (.other (.stringIter s 0)))
  | _ => none
def nextStr (x : AV) : M AV := fun m =>
  match x with
  | .ptr i o =>
    match m.get i with
    | .other (.stringIter s pos) =>
      if m.base ≤ i ∧ o = 0 then
        if pos < s.size then some (.tup [.bool true, .int .i64 pos, .int .i32 (Utf8.decode s pos).1], m.set i (.other (.stringIter s (pos + (Utf8.decode s pos).2))))
        else some (.tup [.bool false], m)
      else none
    | _ => none
  | _ => none

mutual
theorem AV.eq_of_eqb : ∀ {a b : AV}, AV.eqb a b = true → a = b
  | a, b, h => by
    cases a <;> cases b <;> simp only [AV.eqb, Bool.false_eq_true, Bool.and_eq_true, beq_iff_eq, decide_eq_true_eq, Nat.beq_eq] at h <;> first
      | (cases h; done)
      | rfl
      | (subst h; rfl)
      | (obtain ⟨rfl, rfl⟩ := h; rfl)
      | (obtain ⟨⟨⟨rfl, rfl⟩, rfl⟩, rfl⟩ := h; rfl)
      | (rw [AV.eq_of_eqbs h])
theorem AV.eq_of_eqbs : ∀ {a b : List AV}, AV.eqbs a b = true → a = b
  | [], [], _ => rfl
  | a :: as, b :: bs, h => by
    simp only [AV.eqbs, Bool.and_eq_true] at h
    rw [AV.eq_of_eqb h.1, AV.eq_of_eqbs h.2]
  | [], _ :: _, h => by simp [AV.eqbs] at h
  | _ :: _, [], h => by simp [AV.eqbs] at h
end

end Go.Proofs.YtooogfnmhfocjaaGreatDoor.Spl
