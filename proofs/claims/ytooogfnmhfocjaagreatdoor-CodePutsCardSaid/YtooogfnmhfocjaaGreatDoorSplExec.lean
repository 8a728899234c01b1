/- The abstract machine, 2: operations, regions, code, calls. -/
import Derived.Test.YtooogfnmhfocjaaGreatDoorSplAbs
namespace Go.Proofs.YtooogfnmhfocjaaGreatDoor.Spl
open Go
set_option linter.unusedVariables false

/-! which temporaries are still wanted (a number whose bits are temporaries) -/

def bit (i : Nat) : Nat := 1 <<< i
def without (s d : Nat) : Nat := s ^^^ (s &&& d)
def opndBits : Operand → Nat
  | .tmp i => bit i
  | _ => 0
def opndsBits : List Operand → Nat
  | [] => 0
  | x :: xs => opndBits x ||| opndsBits xs
def dstBits : Option Tmp → Nat
  | some i => bit i
  | none => 0
def regionIn : List Oper → Nat → Nat
  | [], L => L
  | o :: os, L => opndsBits o.op.operands.toList ||| (match o.guard with | none => without (regionIn os L) (dstBits o.dst) | some _ => regionIn os L)
def lookupL : List (Nat × Nat) → Nat → Nat
  | [], _ => 0
  | (j, L) :: r, i => if j = i then L else lookupL r i
/-- ls: what is wanted behind each block; R: what is wanted at the end. -/
def liveIn (R : Nat) : Code → List (Nat × Nat) → Nat → Nat
  | .skip, _, L => L
  | .region _ ops _, _, L => regionIn ops.toList L
  | .seq a b, ls, L => liveIn R a ls (liveIn R b ls L)
  | .cond c x y, ls, L => opndBits c ||| liveIn R x ls L ||| liveIn R y ls L
  | .block id c, ls, L => liveIn R c ((id, L) :: ls) L
  | .loop c, ls, _ => liveIn R c ls 0
  | .exit id, ls, _ => lookupL ls id
  | .ret, _, _ => R
  | .label _, _, L => L
  | _, _, _ => 0

/-- Only the wanted temporaries are kept. -/
def mask : Nat → TM → TM
  | _, [] => []
  | L, v :: t => (if L % 2 = 1 then v else .undef) :: mask (L / 2) t
/-- The wanted temporaries, one behind the other. -/
def pack (L : Nat) : (fuel i : Nat) → TM → List AV
  | 0, _, _ => []
  | f + 1, i, t => if (L >>> i) % 2 = 1 then t.getD i .undef :: pack L f (i + 1) t else pack L f (i + 1) t
def unpack (L : Nat) : (fuel i j : Nat) → List AV → TM
  | 0, _, _, _ => []
  | f + 1, i, j, l => if (L >>> i) % 2 = 1 then l.getD j .undef :: unpack L f (i + 1) (j + 1) l else .undef :: unpack L f (i + 1) j l

/-! operations -/

/-- 0: neither reads nor writes memory; 1: reads; 2: writes, makes or calls. -/
def opClass (P : Program) : Op → Nat
  | .move _ | .assign _ | .pick .. | .build .. | .nilCheck _ | .binOp .. | .unOp .. | .fieldAddr .. | .field .. | .indexAddr .. | .index .. | .extract .. | .makeFunc .. | .slice .. => 0
  | .call { callee := .builtin .len, .. } | .call { callee := .builtin .min, .. } | .call { callee := .builtin .max, .. } => 0
  | .load .. => 1
  | .convert _ dst _ => (match P.underlying dst with | some (.int _) => 0 | _ => 2)
  | _ => 2

def fieldOf (P : Program) (s : TypeId) (f : Nat) : Option Field :=
  match P.underlying s with
  | some (.struct fs) => fs[f]?
  | _ => none

def placesOf (P : Program) : List Field → Option (List (Nat × Nat))
  | [] => some []
  | f :: fs => match size? P f.type, placesOf P fs with | some n, some r => some ((f.offset, n) :: r) | _, _ => none
def buildOf (P : Program) (t : TypeId) (parts : List (Nat × AV)) : Option AV :=
  match zeroCells? P t, P.underlying t with
  | some z, some (.struct fs) => match placesOf P fs.toList with | some pl => (aFill (fun i => pl[i]?) z parts).map .agg | none => none
  | some z, some (.array _ e) => match size? P e with | some n => (aFill (fun i => some (i * n, n)) z parts).map .agg | none => none
  | _, _ => none

def infoBytes (P : Program) (t : TypeId) : Nat := P.bytesOf t

/-- A built-in function. -/
def aBuiltin {ρ : Type} (P : Program) (b : Builtin) (ats : List TypeId) (ty : TypeId) (args : List AV) (k : AV → M ρ) : M ρ :=
  match b, ats, args with
  | .len, [t], [x] =>
    match P.underlying t with
    | some .string => lp (aLenStr x) k
    | some (.slice _) => lp (aLenS x) k
    | some (.array n _) => k (.int .i64 n)
    | some (.pointer arr) => (match P.underlying arr with | some (.array n _) => k (.int .i64 n) | _ => fail)
    | _ => fail
  | .min, _, x :: xs => lp (aFold aMin2 x xs) k
  | .max, _, x :: xs => lp (aFold aMax2 x xs) k
  | .append, [st, xt], [s, x] =>
    match P.underlying st, P.underlying xt with
    | some (.slice _), some (.int _) => fail
    | some (.slice e), some _ => (match size? P e, zeroCells? P e with | some n, some z => if z.length = n ∧ 0 < n ∧ 0 < infoBytes P e then bnd (append e n (infoBytes P e) s x) k else fail | _, _ => fail)
    | _, _ => fail
  | .copy, dt :: _, [d, x] =>
    match P.underlying dt with
    | some (.slice e) => (match size? P e with | some n => bnd (copy n d x) k | none => fail)
    | _ => fail
  | .unsafeSliceData, _, [x] => (match P.underlying ty with | some (.pointer _) => bnd (sliceData x) k | _ => fail)
  | .unsafeString, [pt, _], [p, n] =>
    match P.underlying pt with
    | some (.pointer e) => if size? P e = some 1 then bnd (unsafeStr e p n) k else fail
    | _ => fail
  | _, _, _ => fail

def aConv {ρ : Type} (P : Program) (src dst : TypeId) (x : AV) (k : AV → M ρ) : M ρ :=
  match P.underlying src, P.underlying dst, x with
  | some .unsafePointer, some (.pointer u), x => if (size? P u).isSome then bnd (fromUnsafe P.cellsOf (fun ty o => rowAt P (sameLayout P P.depth · u) P.depth ty 1 o 1) x) k else fail
  | some (.pointer t), some .unsafePointer, x => if (size? P t).getD 0 = 0 then fail else bnd (toUnsafe x) k
  | some .unsafePointer, _, _ | _, some .unsafePointer, _ => fail
  | some _, some (.int kd), x => lp (aInt kd x) k
  | some .string, some (.slice e), x => (match P.underlying e with | some (.int .u8) => if size? P e == some 1 && infoBytes P e == 1 then bnd (toBytes e x) k else fail | _ => fail)
  | some .string, some .string, x => lp (aStr x) k
  | some (.slice e), some .string, x => (match P.underlying e with | some (.int .u8) => bnd (ofBytes x) k | _ => fail)
  | _, _, _ => fail

def callee {ρ : Type} (call : Nat → List AV → M AV) (f : AV) (args : List AV) (k : AV → M ρ) : M ρ :=
  match f with
  | .func (.func i) first captured => bnd (call i (first ++ args ++ captured)) k
  | _ => fail

def TM.evs (t : TM) (xs : List Operand) : List AV := xs.map t.ev

def aop {ρ : Type} (P : Program) (call : Nat → List AV → M AV) (o : Oper) (t : TM) (k : AV → M ρ) : M ρ :=
  match o.op with
  | .move x | .assign x => k (t.ev x)
  | .pick c a b => lp (aPick (t.ev c) (t.ev a) (t.ev b)) k
  | .alloc e => (match zeroCells? P e with | some z => bnd (alloc e z) k | none => fail)
  | .box e x => bnd (box e (t.ev x)) k
  | .build ty parts => lp (buildOf P ty (parts.toList.map fun (i, x) => (i, t.ev x))) k
  | .buildSlice ty len parts =>
    match P.underlying ty with
    | some (.slice e) =>
      match size? P e, zeroCells? P e with
      | some n, some z =>
        if len * n ≤ 2 ^ 24 ∧ z.length = n then
          lp (aFill (fun i => some (i * n, n)) ((List.replicate len z).flatten) (parts.toList.map fun (i, x) => (i, t.ev x))) fun cs => bnd (allocS e n len cs) k
        else fail
      | _, _ => fail
    | _ => fail
  | .load ty a => (match shape? P ty with | some sh => bnd (load sh (t.ev a)) k | none => fail)
  | .store ty a x => (match shape? P ty with | some sh => bnd (store sh (t.ev a) (t.ev x)) k | none => fail)
  | .nilCheck x => lp (aNil (t.ev x)) k
  | .binOp op ty x y _ => lp (aBin op (match op with | .eql | .neq => eqKind P ty | _ => []) (t.ev x) (t.ev y)) k
  | .unOp op _ x => lp (aUn op (t.ev x)) k
  | .convert src dst x => aConv P src dst (t.ev x) k
  | .makeFunc fn first captured => k (.func fn (t.evs first.toList) (t.evs captured.toList))
  | .makeSlice ty l c =>
    match P.underlying ty with
    | some (.slice e) => (match size? P e, zeroCells? P e with | some n, some z => if 0 < infoBytes P e then bnd (mkSlice e n (infoBytes P e) z (t.ev l) (t.ev c)) k else fail | _, _ => fail)
    | _ => fail
  | .slice ty x lo hi none =>
    match P.underlying ty with
    | some .string => lp (aSliceStr (t.ev x) (lo.map t.ev) (hi.map t.ev)) k
    | some (.slice e) => (match size? P e with | some n => lp (aSlice n (t.ev x) (lo.map t.ev) (hi.map t.ev)) k | none => fail)
    | some (.array n e) => (match size? P e with | some c => lp (aSliceA n c (t.ev x) (lo.map t.ev) (hi.map t.ev)) k | none => fail)
    | _ => fail
  | .fieldAddr s x f => (match fieldOf P s f with | some fd => if (size? P fd.type).getD 0 = 0 then fail else lp (aOff fd.offset (t.ev x)) k | none => fail)
  | .field s x f => (match fieldOf P s f with | some fd => (match shape? P fd.type with | some sh => lp (aFld sh fd.offset (t.ev x)) k | none => fail) | none => fail)
  | .indexAddr ty x ix =>
    match P.underlying ty with
    | some (.slice e) => (match size? P e with | some n => lp (aIdxS n (t.ev x) (t.ev ix)) k | none => fail)
    | some (.array len e) => (match size? P e with | some n => lp (aIdxA len n (t.ev x) (t.ev ix)) k | none => fail)
    | _ => fail
  | .index ty x ix =>
    match P.underlying ty with
    | some .string => lp (aIdxStr (t.ev x) (t.ev ix)) k
    | some (.array len e) => (match size? P e, shape? P e with | some n, some sh => lp (aIdxV len n sh (t.ev x) (t.ev ix)) k | _, _ => fail)
    | _ => fail
  | .extract x ix => lp (aExt ix (t.ev x)) k
  | .makeMap _ none => bnd newMap k
  | .lookup ty x ix ok =>
    match P.underlying ty with
    | some (.map kt et) => (match (P.info? et).bind (·.zero) with | some z => bnd (mapGet P kt (Value.av z) ok (t.ev x) (t.ev ix)) k | none => fail)
    | _ => fail
  | .mapUpdate ty x ix v | .insert ty x ix v =>
    match P.underlying ty with
    | some (.map kt _) => bnd (mapPut P kt (t.ev x) (t.ev ix) (t.ev v)) k
    | _ => fail
  | .range ty x =>
    match P.underlying ty with
    | some .string => bnd (rangeStr (t.ev x)) k
    | _ => fail
  | .next x true => bnd (nextStr (t.ev x)) k
  | .call { callee := .value f, args, .. } => callee call (t.ev f) (t.evs args.toList) k
  | .call { callee := .builtin b, args, argTypes } => aBuiltin P b argTypes.toList o.type (t.evs args.toList) k
  | _ => fail

/-! regions -/

/-- Which way a guard goes: (the slot, the bool) or that it was passed over. -/
def guardOf (ops : List Oper) (t : TM) (j : Nat) : Option (Tmp × AV) :=
  match ops[j]? with
  | some o => match o.dst with
    | some d => some (d, t.getD d .undef)
    | none => none
  | none => none

def guarded {ρ : Type} (g : Option (Tmp × AV)) (sk want : Bool) (yes no : TM → M ρ) (t : TM) : M ρ :=
  match g with
  | some (d, v) =>
    if sk then (match v with | .tup [] => no t | _ => fail)
    else if want then mc v (yes (t.set d (.bool true))) (no (t.set d (.bool false))) else mc v (no (t.set d (.bool true))) (yes (t.set d (.bool false)))
  | none => fail

/-- The operations of a region in the order of the text; sk: which were passed over. -/
def runOps {ρ : Type} (P : Program) (call : Nat → List AV → M AV) (all : List Oper) : (i sk : Nat) → List Oper → (TM → M ρ) → TM → M ρ
  | _, _, [], K, t => K t
  | i, sk, o :: os, K, t =>
    match o.guard with
    | none => aop P call o t fun v => runOps P call all (i + 1) sk os K (t.put o.dst v)
    | some (j, want) =>
      guarded (guardOf all t j) (Nat.testBit sk j) want
        (fun t => aop P call o t fun v => runOps P call all (i + 1) sk os K (t.put o.dst v))
        (fun t => runOps P call all (i + 1) (sk ||| 2 ^ i) os K (t.put o.dst (.tup []))) t

/-- The cell reads the same in that memory. -/
def same {ρ : Type} (sh : Option Nat) (a v : AV) (m : Mem) (k : M ρ) : M ρ :=
  match load? sh a m with
  | some u => (match AV.eqb u v with | true => k | false => fail)
  | none => fail

structure Seen where
  snaps : List (Nat × Mem)
  loads : List (Nat × Option Nat × AV × AV)

def sameIn {ρ : Type} (bf : Nat) (sh : Option Nat) (a v : AV) : List (Nat × Mem) → M ρ → M ρ
  | [], k => k
  | (h, m) :: r, k => if Nat.testBit bf h then sameIn bf sh a v r k else same sh a v m (sameIn bf sh a v r k)
def sameNow {ρ : Type} (bf : Nat) (m : Mem) : List (Nat × Option Nat × AV × AV) → M ρ → M ρ
  | [], k => k
  | (l, sh, a, v) :: r, k => if Nat.testBit bf l then sameNow bf m r k else same sh a v m (sameNow bf m r k)

/-- The operations of a region that draws its order, in the order of the text; what is loaded must be the same wherever it might be loaded. -/
def runDraw {ρ : Type} (P : Program) (call : Nat → List AV → M AV) (all : List Oper) (bf : List Nat) : (sk i : Nat) → List Oper → List (Nat × Mem) → List (Nat × Option Nat × AV × AV) → (TM → M ρ) → TM → M ρ
  | _, _, [], _, _, K, t => K t
  | sk, i, o :: os, ms, ls, K, t =>
    let go (t : TM) : M ρ :=
      match opClass P o.op with
      | 0 => aop P call o t fun v => runDraw P call all bf sk (i + 1) os ms ls K (t.put o.dst v)
      | 1 =>
        match o.op with
        | .load ty a =>
          (match shape? P ty with
          | some sh => bnd (load sh (t.ev a)) fun v => sameIn (bf.getD i 0) sh (t.ev a) v ms (runDraw P call all bf sk (i + 1) os ms ((i, sh, t.ev a, v) :: ls) K (t.put o.dst v))
          | none => fail)
        | _ => fail
      | _ => snap fun m => aop P call o t fun v => snap fun m' => sameNow (bf.getD i 0) m' ls (runDraw P call all bf sk (i + 1) os ((i, m) :: ms) ls K (t.put o.dst v))
    match o.guard with
    | none => go t
    | some (j, want) => guarded (guardOf all t j) (Nat.testBit sk j) want go (fun t => runDraw P call all bf (sk ||| 2 ^ i) (i + 1) os ms ls K (t.put o.dst (.tup []))) t

/-- Which operations stand ahead of each, by the edges that always bind. -/
def beforeOf (acc : List Nat) (o : Oper) : Nat := o.after.toList.foldr (fun e s => if Region.binds .any e then s ||| 2 ^ e.on ||| acc.getD e.on 0 else s) 0
def befores : List Nat → List Oper → List Nat
  | acc, [] => acc
  | acc, o :: os => befores (acc ++ [beforeOf acc o]) os

def namesOf (o : Oper) : List Tmp := o.dst.toList ++ o.op.operands.toList.filterMap fun | .tmp t => some t | _ => none

def everyI : Nat → (Nat → Oper → Bool) → List Oper → Bool
  | _, _, [] => true
  | i, p, o :: os => p i o && everyI (i + 1) p os

/-- May it be done ahead of what is ordered ahead of it in the text alone? -/
def isAlloc : Op → Bool
  | .alloc _ => true
  | _ => false

/-- May the region draw its order: are its temporaries, its guards and its writing operations ordered? A new variable may be made earlier than the text says, if what stands behind it stands behind all that the text has ahead of it. -/
def drawOk (P : Program) (ops : List Oper) (bf : List Nat) : Bool :=
  everyI 0 (fun j o =>
    o.after.all (fun e => !Region.binds .any e || e.on < j) &&
    (namesOf o).all (fun t => everyI 0 (fun i o' => o'.dst != some t || i == j || Nat.testBit (bf.getD (max i j) 0) (min i j)) ops) &&
    (match o.guard with
     | none => true
     | some (q, _) => Nat.testBit (bf.getD j 0) q && (match ops[q]? with | some oq => (match oq.dst with | some d => everyI 0 (fun k o' => k == q || o'.dst != some d) ops | none => false) | none => false)) &&
    (opClass P o.op != 2 || everyI 0 (fun i o' => opClass P o'.op != 2 || j ≤ i || Nat.testBit (bf.getD j 0) i || isAlloc o.op) ops) &&
    everyI 0 (fun a oa => !isAlloc oa.op || !Nat.testBit (bf.getD j 0) a || everyI 0 (fun i o' => opClass P o'.op != 2 || a ≤ i || Nat.testBit (bf.getD j 0) i) ops) ops) ops

/-! code -/

def loopN {ρ : Type} (step : (List AV → M ρ) → List AV → M ρ) : Nat → List AV → M ρ
  | 0, _ => fail
  | n + 1, l => step (loopN step n) l

abbrev Kont (ρ : Type) := Exit → TM → M ρ

def execK {ρ : Type} (P : Program) (call : Nat → List AV → M AV) (n nt R : Nat) : Code → List (Nat × Nat) → Nat → Kont ρ → TM → M ρ
  | .skip, _, _, K, t => K .normal t
  | .label _, _, _, K, t => K .normal t
  | .region _ ops draw, _, _, K, t =>
    if draw then (if drawOk P ops.toList (befores [] ops.toList) then runDraw P call ops.toList (befores [] ops.toList) 0 0 ops.toList [] [] (K .normal) t else fail)
    else runOps P call ops.toList 0 0 ops.toList (K .normal) t
  | .seq (.region id ops draw) b, ls, L, K, t =>
    execK P call n nt R (.region id ops draw) ls 0 (fun e t' => match e with | .normal => execK P call n nt R b ls L K t' | e => K e t') t
  | .seq a b, ls, L, K, t =>
    execK P call n nt R a ls (liveIn R b ls L) (fun e t' => match e with | .normal => execK P call n nt R b ls L K (mask (liveIn R b ls L) t') | e => K e t') t
  | .cond c x y, ls, L, K, t => mc (t.ev c) (execK P call n nt R x ls L K t) (execK P call n nt R y ls L K t)
  | .block id c, ls, L, K, t =>
    execK P call n nt R c ((id, L) :: ls) L (fun e t' => match e with | .exit j => if j = id then K .normal t' else K (.exit j) t' | e => K e t') t
  | .loop c, ls, _, K, t =>
    loopN (fun rec l => execK P call n nt R c ls (liveIn R c ls 0) (fun e t' => match e with | .normal => rec (pack (liveIn R c ls 0) nt 0 t') | e => K e t') (unpack (liveIn R c ls 0) nt 0 0 l)) n
      (pack (liveIn R c ls 0) nt 0 t)
  | .exit id, _, _, K, t => K (.exit id) t
  | .ret, _, _, K, t => K .ret t
  | _, _, _, _, _ => fail

/-! calls -/

def resultBits : List ResultVar → Nat
  | [] => 0
  | .tmp i :: r => bit i ||| resultBits r
  | .cell i _ :: r => bit i ||| resultBits r
def resultsK (P : Program) (t : TM) : List ResultVar → (List AV → M AV) → M AV
  | [], k => k []
  | .tmp i :: r, k => resultsK P t r fun vs => k (t.getD i .undef :: vs)
  | .cell i ty :: r, k =>
    match shape? P ty with
    | some sh => bnd (load sh (t.getD i .undef)) fun v => resultsK P t r fun vs => k (v :: vs)
    | none => fail
def tuple : List AV → AV
  | [v] => v
  | vs => .tup vs
def endK (P : Program) (rs : List ResultVar) : Kont AV := fun e t =>
  match e with
  | .normal | .ret => resultsK P t rs fun vs => ret (tuple vs)
  | _ => fail

abbrev Ext := Nat → Option (List AV → M AV)

def bodyK (P : Program) (call : Nat → List AV → M AV) (n : Nat) (fn : Func) (args : List AV) : M AV :=
  match fn.body with
  | some c => execK P call n fn.ntmps (resultBits fn.results.toList) c [] (resultBits fn.results.toList) (endK P fn.results.toList) (args ++ List.replicate (fn.ntmps - args.length) .undef)
  | none => fail
def fcall (P : Program) (ext : Ext) : Nat → Nat → List AV → M AV
  | 0, _, _ => fail
  | n + 1, f, args =>
    match ext f with
    | some g => g args
    | none =>
      match P.funcs[f]? with
      | some fn => bodyK P (fcall P ext n) n fn args
      | none => fail

end Go.Proofs.YtooogfnmhfocjaaGreatDoor.Spl
