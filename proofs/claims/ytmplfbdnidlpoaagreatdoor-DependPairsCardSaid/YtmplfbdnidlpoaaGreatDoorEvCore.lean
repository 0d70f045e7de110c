/- An evaluator of the model's code over abstract memory: definitions. -/
import Derived.Test.YtmplfbdnidlpoaaGreatDoorEvTrie
import GoSem.Claims
import Derived.Lib.DecodeN
namespace Go.Ev
noncomputable section

/-- an abstract value: blocks have numbers of the evaluator's own; of a slice that append made the capacity is not known -/
inductive AV where
  | bool (b : Bool)
  | int (k : IntKind) (n : Int)
  | str (s : List Nat)
  | nilPtr
  | ptr (b off : Nat)
  | nilSlice
  | slice (b off len cap : Nat)
  | oslice (b off len esz : Nat)
  | nilMap
  | map (b : Nat)
  | func (fn : Fn) (cap : List AV)
  | nilFunc
  | iface (t : TypeId) (v : AV)
  | nilIface
  | agg (cs : List AV)
  | tup (vs : List AV)
  | opq (k : Nat)
  deriving Inhabited

inductive AObj where
  | cells (t : PT AV) (z : List AV) (n : Nat)
  | map (es : List (AV × AV × Nat)) (clock : Nat)
  | strIter (s : List Nat) (pos : Nat)
  | mapIter (m : Nat) (since : Nat) (seen : List Nat) (stepped : Nat)

abbrev Heap := PT AObj

inductive TyD where
  | bool | int (k : IntKind) | string | pointer (e : Nat) | slice (e : Nat) | array (n e : Nat) | map (k e : Nat)
  | struct (fs : List (Nat × Nat × Bool))     -- offset, type, is it compared?
  | iface | func | tuple | other

structure TyI where
  d : TyD
  size : Nat
  bytes : Nat
  agg : Bool
  zero : Option (List AV)
  eqs : Bool   -- a struct that may be compared plainly

structure St where
  tm : PT AV
  nt : Nat
  df : List (AV × List AV)
  hp : Heap
  nx : Nat

inductive AExit where
  | normal
  | exit (id : Nat)
  | ret
  | panic (v : AV)

inductive Res where
  | code (e : AExit) (s : St)
  | dfr (e : AExit) (s : St) (um : Option (AV × Bool))
  | ret (v : AV) (hp : Heap) (nx : Nat)
  | pan (v : AV) (hp : Heap) (nx : Nat)

structure Env where
  fns : PT Func
  ext : PT Nat
  tys : PT TyI
  sum : Nat → Option (List AV → Heap → Nat → Option Res)
  fact : Op → PT AV → Option AV

inductive OpK where
  | quiet | alloc | loud
  deriving DecidableEq

/-- an operation's place in a plan: its number, its kind, and, as bits, all that must stand ahead of it -/
structure PI where
  i : Nat
  o : Oper
  k : OpK
  m : Nat

/-- what an operation does that the plan has done, and the run perhaps not yet -/
inductive What where
  | skip
  | quiet (v : AV)
  | alloc (b : Nat) (v : AV) (obj : AObj)

/-- 'tr': the slots that it reads -/
structure Rec where
  p : PI
  tr : PT AV
  x : What

inductive Task where
  | code (c : Code) (s : St)
  | loop (c : Code) (s : St)
  | ops (all rest : List Oper) (s : St)
  | dops (all : List Oper) (pl : List PI) (s : St) (pd : List Rec)
  | call (f : Nat) (args : List AV) (hp : Heap) (nx : Nat)
  | leave (fn : Func) (tm : PT AV) (df : List (AV × List AV)) (pan : Option AV) (hp : Heap) (nx : Nat)
  | rcode (c : Code) (s : St) (um : Option (AV × Bool))
  | rops (all rest : List Oper) (s : St) (um : Option (AV × Bool))

def bytesOf (s : ByteArray) : List Nat := s.data.toList.map (·.toNat)

mutual
def ofValue : Value → Option AV
  | .bool b => some (.bool b)
  | .int k n => some (.int k n)
  | .string s => some (.str (bytesOf s))
  | .pointer none => some .nilPtr
  | .slice none 0 0 => some .nilSlice
  | .map none => some .nilMap
  | .nilFunc => some .nilFunc
  | .nilIface => some .nilIface
  | .agg ⟨cs⟩ => ob (ofValues cs) fun l => some (.agg l)
  | .iface t v => ob (ofValue v) fun a => some (.iface t a)
  | .func fn ⟨[]⟩ ⟨[]⟩ => some (.func fn [])
  | _ => none
def ofValues : List Value → Option (List AV)
  | [] => some []
  | v :: vs => ob (ofValue v) fun a => ob (ofValues vs) fun as => some (a :: as)
end

namespace AV
def bool? : AV → Option Bool | .bool b => some b | _ => none
def int? : AV → Option (IntKind × Int) | .int k n => some (k, n) | _ => none
def nat? : AV → Option Nat | .int _ (.ofNat n) => some n | _ => none
def str? : AV → Option (List Nat) | .str s => some s | _ => none
def ptr? : AV → Option (Nat × Nat) | .ptr b o => some (b, o) | _ => none
def agg? : AV → Option (List AV) | .agg cs => some cs | _ => none
def tup? : AV → Option (List AV) | .tup cs => some cs | _ => none
def map? : AV → Option Nat | .map b => some b | _ => none
def func? : AV → Option (Nat × List AV) | .func (.func f) c => some (f, c) | _ => none
def iface? : AV → Option (Nat × AV) | .iface t v => some (t, v) | _ => none
def cells : AV → List AV | .agg cs => cs | v => [v]
/-- a value of one cell -/
def one : AV → Bool | .agg _ | .tup _ | .opq _ => false | _ => true
end AV

namespace TyI
def slice? (t : TyI) : Option Nat := match t.d with | .slice e => some e | _ => none
def array? (t : TyI) : Option (Nat × Nat) := match t.d with | .array n e => some (n, e) | _ => none
def struct? (t : TyI) : Option (List (Nat × Nat × Bool)) := match t.d with | .struct fs => some fs | _ => none
def pointer? (t : TyI) : Option Nat := match t.d with | .pointer e => some e | _ => none
def map? (t : TyI) : Option (Nat × Nat) := match t.d with | .map k e => some (k, e) | _ => none
def int? (t : TyI) : Option IntKind := match t.d with | .int k => some k | _ => none
def isU8 (t : TyI) : Bool := match t.d with | .int .u8 => true | _ => false
def isString (t : TyI) : Bool := match t.d with | .string => true | _ => false
def isIface (t : TyI) : Bool := match t.d with | .iface => true | _ => false
end TyI

namespace AObj
def cells? : AObj → Option (PT AV × List AV × Nat) | .cells t z n => some (t, z, n) | _ => none
def map? : AObj → Option (List (AV × AV × Nat) × Nat) | .map es c => some (es, c) | _ => none
end AObj

def opnd (tm : PT AV) : Operand → Option AV
  | .tmp t => tm.get t
  | .const v => ofValue v
  | .global _ => none
  | .func f => some (.func (.func f) [])

def opnds (tm : PT AV) : List Operand → Option (List AV)
  | [] => some []
  | o :: os => ob (opnd tm o) fun a => ob (opnds tm os) fun as => some (a :: as)

def optOpnd (tm : PT AV) : Option Operand → Option (Option AV)
  | none => some none
  | some o => ob (opnd tm o) fun a => some (some a)

def opndParts (tm : PT AV) : List (Nat × Operand) → Option (List (Nat × AV))
  | [] => some []
  | (i, o) :: os => ob (opnd tm o) fun a => ob (opndParts tm os) fun as => some ((i, a) :: as)

def nth {α : Type} (l : List α) : Nat → Option α :=
  List.rec (motive := fun _ => Nat → Option α) (fun _ => none) (fun a _ go n => bc (go (Nat.sub n 1)) (some a) (Nat.beq n 0)) l

/-- a cell of a row: cell 'i' stands at 't', or is that of its pattern -/
def cellOf (t : PT AV) (z : List AV) (n i : Nat) : Option AV :=
  og (Nat.ble (Nat.add i 1) n) (oc (nth z (Nat.mod i z.length)) some (t.get i))

def cellsFrom (t : PT AV) (z : List AV) (n : Nat) : (k i : Nat) → Option (List AV)
  | 0, _ => some []
  | k + 1, i => ob (cellOf t z n i) fun v => ob (cellsFrom t z n k (Nat.add i 1)) fun vs => some (v :: vs)

def putCells : List AV → PT AV → Nat → PT AV
  | [], t, _ => t
  | v :: vs, t, i => putCells vs (t.put i v) (Nat.add i 1)

def rowOf (vs : List AV) : PT AV := putCells vs .nil 0

def allOne : List AV → Bool
  | [] => true
  | v :: vs => bc false (allOne vs) v.one

/-- the cells of a heap's row -/
def readAt (hp : Heap) (b off k : Nat) : Option (List AV) :=
  ob (hp.get b) fun o => ob o.cells? fun (t, z, n) => cellsFrom t z n k off

def writeAt (hp : Heap) (b off : Nat) (vs : List AV) : Option Heap :=
  ob (hp.get b) fun o => ob o.cells? fun (t, z, n) =>
    og (Nat.ble (Nat.add off vs.length) n) (og (allOne vs) (some (hp.put b (.cells (putCells vs t off) z n))))

def one? : List AV → Option AV
  | [v] => some v
  | _ => none

/-- cells as a value of a type -/
def asTy (ti : TyI) (cs : List AV) : Option AV := bc (one? cs) (some (.agg cs)) ti.agg

def loadA (E : Env) (hp : Heap) (t : Nat) (p : AV) : Option AV :=
  ob p.ptr? fun (b, off) => ob (E.tys.get t) fun ti => ob (readAt hp b off ti.size) (asTy ti)

def storeA (E : Env) (hp : Heap) (t : Nat) (p v : AV) : Option Heap :=
  ob p.ptr? fun (b, off) => ob (E.tys.get t) fun ti => og (Nat.beq v.cells.length ti.size) (writeAt hp b off v.cells)

/-- wrap, with a quick look at small numbers -/
def wrap (k : IntKind) (n : Int) : Int :=
  match n with
  | .ofNat m => bc (IntKind.wrap k n) n (Nat.ble m 127)
  | .negSucc _ => IntKind.wrap k n

def wrap64 (n : Int) : Int :=
  match n with
  | .ofNat m => bc (IntKind.wrap .i64 n) n (Nat.ble m 9223372036854775807)
  | .negSucc m => bc (IntKind.wrap .i64 n) n (Nat.ble m 9223372036854775807)

def wrapA (k : IntKind) (n : Int) : Int :=
  match k with
  | .i64 => wrap64 n
  | k => wrap k n

def eqInt : Int → Int → Bool
  | .ofNat a, .ofNat b => Nat.beq a b
  | .negSucc a, .negSucc b => Nat.beq a b
  | _, _ => false

def ltInt : Int → Int → Bool
  | .ofNat a, .ofNat b => Nat.ble (Nat.add a 1) b
  | .negSucc a, .negSucc b => Nat.ble (Nat.add b 1) a
  | .negSucc _, .ofNat _ => true
  | .ofNat _, .negSucc _ => false

def leInt (a b : Int) : Bool := !ltInt b a

def bytesLt : List Nat → List Nat → Bool
  | _, [] => false
  | [], _ :: _ => true
  | a :: x, b :: y => bc (bc false (bytesLt x y) (Nat.beq a b)) true (Nat.ble (Nat.add a 1) b)

def eqBytes : List Nat → List Nat → Bool
  | [], [] => true
  | a :: x, b :: y => bc false (eqBytes x y) (Nat.beq a b)
  | _, _ => false

def eqKind : IntKind → IntKind → Bool := fun a b => decide (a = b)

/-- are two values of a type one? -/
def eqA (E : Env) : Nat → Nat → AV → AV → Option Bool
  | 0, _, _, _ => none
  | f + 1, t, x, y => ob (E.tys.get t) fun ti =>
    match ti.d, x, y with
    | .bool, .bool a, .bool b => some (a == b)
    | .int _, .int k a, .int k' b => og (eqKind k k') (some (eqInt a b))
    | .string, .str a, .str b => some (eqBytes a b)
    | .pointer _, .nilPtr, .nilPtr => some true
    | .pointer _, .nilPtr, .ptr _ _ => some false
    | .pointer _, .ptr _ _, .nilPtr => some false
    | .slice _, .nilSlice, .nilSlice => some true
    | .slice _, .nilSlice, .slice _ _ _ _ => some false
    | .slice _, .nilSlice, .oslice _ _ _ _ => some false
    | .slice _, .slice _ _ _ _, .nilSlice => some false
    | .slice _, .oslice _ _ _ _, .nilSlice => some false
    | .map _ _, .nilMap, .nilMap => some true
    | .map _ _, .nilMap, .map _ => some false
    | .map _ _, .map _, .nilMap => some false
    | .func, .nilFunc, .nilFunc => some true
    | .func, .nilFunc, .func _ _ => some false
    | .func, .func _ _, .nilFunc => some false
    | .iface, .nilIface, .nilIface => some true
    | .iface, .nilIface, .iface _ _ => some false
    | .iface, .iface _ _, .nilIface => some false
    | .struct fs, .agg as, .agg bs => og ti.eqs (fs.foldr (fun fd rest =>
        bc rest
          (ob (E.tys.get fd.2.1) fun fi =>
            ob (asTy fi ((as.drop fd.1).take fi.size)) fun p => ob (asTy fi ((bs.drop fd.1).take fi.size)) fun q =>
              ob (eqA E f fd.2.1 p q) fun c => bc (some false) rest c) fd.2.2) (some true))
    | _, _, _ => none

def intBin (op : BinOp) (k : IntKind) (a b : Int) : Option AV :=
  match op with
  | .add => some (.int k (wrapA k (a + b)))
  | .sub => some (.int k (wrapA k (a - b)))
  | .mul => some (.int k (wrapA k (a * b)))
  | .quo => og (!eqInt b 0) (some (.int k (wrapA k (a.tdiv b))))
  | .rem => og (!eqInt b 0) (some (.int k (a.tmod b)))
  | .eql => some (.bool (eqInt a b))
  | .neq => some (.bool (!eqInt a b))
  | .lss => some (.bool (ltInt a b))
  | .leq => some (.bool (leInt a b))
  | .gtr => some (.bool (ltInt b a))
  | .geq => some (.bool (leInt b a))
  | .and => some (.int k (IntKind.wrap k (BitVec.ofInt k.bits a &&& BitVec.ofInt k.bits b).toNat))
  | .or => some (.int k (IntKind.wrap k (BitVec.ofInt k.bits a ||| BitVec.ofInt k.bits b).toNat))
  | .xor => some (.int k (IntKind.wrap k (BitVec.ofInt k.bits a ^^^ BitVec.ofInt k.bits b).toNat))
  | .andNot => some (.int k (IntKind.wrap k (BitVec.ofInt k.bits a &&& ~~~ BitVec.ofInt k.bits b).toNat))
  | .shl => og (leInt 0 b) (some (.int k (IntKind.wrap k (a * 2 ^ (min b.toNat k.bits)))))
  | .shr => og (leInt 0 b) (some (.int k (a.fdiv (2 ^ (min b.toNat k.bits)))))

def isShift : BinOp → Bool
  | .shl | .shr => true
  | _ => false

def strBin (op : BinOp) (a b : List Nat) : Option AV :=
  match op with
  | .add => og (Nat.ble (Nat.add a.length b.length) 1000000000) (some (.str (a ++ b)))
  | .eql => some (.bool (eqBytes a b))
  | .neq => some (.bool (!eqBytes a b))
  | .lss => some (.bool (bytesLt a b))
  | .leq => some (.bool (bytesLt a b || eqBytes a b))
  | .gtr => some (.bool (!(bytesLt a b || eqBytes a b)))
  | .geq => some (.bool (!bytesLt a b))
  | _ => none

def isNilIface : AV → Bool
  | .nilIface => true
  | _ => false
def eqOp (op : BinOp) (b : Bool) : Option AV :=
  match op with
  | .eql => some (.bool b)
  | .neq => some (.bool (!b))
  | _ => none

/-- 'c': is one operand a constant? -/
def binA (E : Env) (op : BinOp) (t : Nat) (c : Bool) (x y : AV) : Option AV :=
  match x, y with
  | .int k a, .int k' b => og (isShift op || eqKind k k') (intBin op k a b)
  | .str a, .str b => strBin op a b
  | x, y => og (!(isNilIface x && isNilIface y) || c) (ob (eqA E 20 t x y) (eqOp op))

def unA (op : UnOp) (x : AV) : Option AV :=
  match op, x with
  | .not, .bool b => some (.bool (!b))
  | .neg, .int k n => some (.int k (wrapA k (0 - n)))
  | .xor, .int k n => some (.int k (IntKind.wrap k (BitVec.ofInt k.bits (if k.signed then -1 else k.max) ^^^ BitVec.ofInt k.bits n).toNat))
  | _, _ => none

/-- fill parts into cells -/
def fillA (place : Nat → Option (Nat × Nat)) (n : Nat) : List (Nat × AV) → PT AV → Option (PT AV)
  | [], cells => some cells
  | (i, v) :: rest, cells => ob (place i) fun (off, size) =>
    og (Nat.beq v.cells.length size) (og (Nat.ble (Nat.add off size) n) (fillA place n rest (putCells v.cells cells off)))

def sizeA (E : Env) (t : Nat) : Option Nat := ob (E.tys.get t) fun ti => some ti.size

def structPlace (E : Env) (fs : List (Nat × Nat × Bool)) (i : Nat) : Option (Nat × Nat) :=
  ob (nth fs i) fun fd => ob (sizeA E fd.2.1) fun s => some (fd.1, s)

def known : List (Nat × AV) → Bool
  | [] => true
  | p :: ps => match p.2 with
    | .opq _ => false
    | _ => known ps

def buildA (E : Env) (t : Nat) (parts : List (Nat × AV)) : Option AV :=
  og (known parts) <| ob (E.tys.get t) fun ti => ob ti.zero fun z => og (Nat.beq z.length ti.size)
    (match ti.d with
    | .struct fs => ob (fillA (structPlace E fs) ti.size parts (rowOf z)) fun row => ob (cellsFrom row [] ti.size ti.size 0) fun cs => some (.agg cs)
    | .array _ e => ob (sizeA E e) fun s => ob (fillA (fun i => some (Nat.mul i s, s)) ti.size parts (rowOf z)) fun row =>
        ob (cellsFrom row [] ti.size ti.size 0) fun cs => some (.agg cs)
    | _ => none)

/-- a bound of a slice expression -/
def bound (x : Option AV) (d y : Nat) : Option Nat :=
  match x with
  | none => some d
  | some v => ob v.nat? fun n => og (Nat.ble n y) (some n)

def newOff (m l off sz : Nat) : Nat := bc (Nat.add off (Nat.mul l sz)) off (Nat.beq m l)

def sliceArr (E : Env) (n e b off : Nat) (lo hi mx : Option AV) : Option AV :=
  ob (sizeA E e) fun sz => ob (bound mx n n) fun m => og (mx.isNone || hi.isSome) (ob (bound hi n m) fun h => ob (bound lo 0 h) fun l =>
    some (.slice b (newOff m l off sz) (Nat.sub h l) (Nat.sub m l)))

def sliceA (E : Env) (hp : Heap) (t : Nat) (x : AV) (lo hi mx : Option AV) : Option AV :=
  ob (E.tys.get t) fun ti =>
  match ti.d, x with
  | .string, .str s => og mx.isNone (ob (bound hi s.length s.length) fun h => ob (bound lo 0 h) fun l => some (.str ((s.take h).drop l)))
  | .slice e, .nilSlice => ob (sizeA E e) fun _ => og (mx.isNone || hi.isSome) (ob (bound mx 0 0) fun _ => ob (bound hi 0 0) fun _ => ob (bound lo 0 0) fun _ => some .nilSlice)
  | .slice e, .slice b off len cap => ob (sizeA E e) fun sz => ob (bound mx cap cap) fun m => og (mx.isNone || hi.isSome) (ob (bound hi len m) fun h => ob (bound lo 0 h) fun l =>
      some (.slice b (newOff m l off sz) (Nat.sub h l) (Nat.sub m l)))
  | .slice e, .oslice b off len esz => ob (sizeA E e) fun sz => og (Nat.beq sz esz) (og (!Nat.beq esz 0) (ob (hp.get b) fun o => ob o.cells? fun (_, _, n) =>
      oc (ob (bound hi len (Nat.div (Nat.sub n off) esz)) fun h => ob (bound lo 0 h) fun l => some (.oslice b (Nat.add off (Nat.mul l esz)) (Nat.sub h l) esz))
        (fun _ => ob (bound mx 0 (Nat.div (Nat.sub n off) esz)) fun m => og hi.isSome (ob (bound hi len m) fun h => ob (bound lo 0 h) fun l =>
          some (.slice b (newOff m l off esz) (Nat.sub h l) (Nat.sub m l)))) mx))
  | .pointer arr, .ptr b off => ob (E.tys.get arr) fun ai => ob ai.array? fun (n, e) => sliceArr E n e b off lo hi mx
  | .array n e, .ptr b off => sliceArr E n e b off lo hi mx
  | _, _ => none

def lenA (E : Env) (hp : Heap) (t : Nat) (x : AV) : Option Nat :=
  ob (E.tys.get t) fun ti =>
  match ti.d, x with
  | .string, .str s => some s.length
  | .slice _, .nilSlice => some 0
  | .slice _, .slice _ _ n _ => some n
  | .slice _, .oslice _ _ n _ => some n
  | .map _ _, .nilMap => some 0
  | .map _ _, .map b => ob (hp.get b) fun o => ob o.map? fun (es, _) => some es.length
  | .array n _, _ => some n
  | .pointer arr, _ => ob (E.tys.get arr) fun ai => ob ai.array? fun (n, _) => some n
  | _, _ => none

def u8s (s : List Nat) : List AV := s.map fun b => .int .u8 (.ofNat b)

/-- the cells of the first n elements -/
def firstA (hp : Heap) (size n : Nat) : AV → Option (List AV)
  | .nilSlice => some []
  | .slice b off _ _ => readAt hp b off (Nat.mul n size)
  | .oslice b off _ _ => readAt hp b off (Nat.mul n size)
  | .str s => some (u8s (s.take n))
  | _ => none

def seqLen : AV → Option Nat
  | .nilSlice => some 0
  | .slice _ _ n _ => some n
  | .oslice _ _ n _ => some n
  | .str s => some s.length
  | _ => none

def rep {α : Type} : Nat → List α → List α
  | 0, _ => []
  | n + 1, l => l ++ rep n l

/-- what is appended: how many, and the cells -/
def appSrc (E : Env) (hp : Heap) (ei : TyI) (xt : Nat) (x : AV) : Option (Nat × List AV) :=
  ob (E.tys.get xt) fun xi =>
  match xi.d with
  | .int _ => ob x.nat? fun n => ob ei.zero fun z => og (Nat.ble n 100000) (og (Nat.beq z.length ei.size) (some (n, rep n z)))
  | _ => ob (seqLen x) fun n => ob (firstA hp ei.size n x) fun cs => some (n, cs)

abbrev Grown := AV × Heap × Nat

def growA (hp : Heap) (nx esz need : Nat) (old new : List AV) : Option Grown :=
  og (Nat.beq (Nat.add old.length new.length) (Nat.mul need esz)) (og (Nat.ble need 1000000)
    (some (.oslice nx 0 need esz, hp.put nx (.cells (rowOf (old ++ new)) [] (Nat.mul need esz)), Nat.add nx 1)))

def appendA (E : Env) (hp : Heap) (nx : Nat) (st xt : Nat) (s x : AV) : Option Grown :=
  ob (E.tys.get st) fun si => ob si.slice? fun e => ob (E.tys.get e) fun ei =>
  og (!Nat.beq ei.size 0) (og (Nat.ble ei.bytes 100000) (ob (appSrc E hp ei xt x) fun (n, new) => og (allOne new) (og (Nat.beq new.length (Nat.mul n ei.size)) (ob ei.zero fun z0 => og (Nat.beq z0.length ei.size)
    (match s with
    | .nilSlice => bc (growA hp nx ei.size n [] new) (some (.nilSlice, hp, nx)) (Nat.beq n 0)
    | .slice b off len cap =>
      bc (ob (readAt hp b off (Nat.mul len ei.size)) fun old => growA hp nx ei.size (Nat.add len n) old new)
        (ob (writeAt hp b (Nat.add off (Nat.mul len ei.size)) new) fun hp' => some (.slice b off (Nat.add len n) cap, hp', nx)) (Nat.ble (Nat.add len n) cap)
    | .oslice b off len esz => og (Nat.beq esz ei.size) (ob (hp.get b) fun o => ob o.cells? fun (t, z, k) =>
      bc
        (bc
          (bc
            (ob (cellsFrom t z k (Nat.mul len esz) off) fun old => growA (hp.del b) nx esz (Nat.add len n) old new)
            (og (Nat.ble (Nat.mul len esz) k) (og (Nat.ble (Nat.add len n) 1000000)
              (some (.oslice nx 0 (Nat.add len n) esz, (hp.del b).put nx (.cells (putCells new t (Nat.mul len esz)) [] (Nat.mul (Nat.add len n) esz)), Nat.add nx 1))))
            (Nat.beq off 0 && z.isEmpty))
          (some (.oslice b off (Nat.add len n) esz, hp.put b (.cells (putCells new t (Nat.add off (Nat.mul len esz))) z k), nx))
          (Nat.ble (Nat.add off (Nat.mul (Nat.add len n) esz)) k))
        (some (s, hp, nx)) (Nat.beq n 0))
    | _ => none)))))

def copyA (E : Env) (hp : Heap) (st : Nat) (d x : AV) : Option (Nat × Heap) :=
  ob (E.tys.get st) fun si => ob si.slice? fun e => ob (sizeA E e) fun sz => ob (seqLen d) fun dl => ob (seqLen x) fun xl =>
    ob (firstA hp sz (Nat.min xl dl) x) fun cs =>
    match d with
    | .nilSlice => some (Nat.min xl dl, hp)
    | .slice b off _ _ => ob (writeAt hp b off cs) fun hp' => some (Nat.min xl dl, hp')
    | .oslice b off _ _ => ob (writeAt hp b off cs) fun hp' => some (Nat.min xl dl, hp')
    | _ => none

def keyEq : AV → AV → Option Bool
  | .int k a, .int k' b => og (eqKind k k') (some (eqInt a b))
  | .str a, .str b => some (eqBytes a b)
  | _, _ => none

def findA (k : AV) : List (AV × AV × Nat) → Nat → Option (Option (Nat × AV))
  | [], _ => some none
  | e :: es, i => ob (keyEq k e.1) fun c => bc (findA k es (Nat.add i 1)) (some (some (i, e.2.1))) c

/-- a map's keys that it is asked by -/
def keyTy (E : Env) (t : Nat) (k : AV) : Bool :=
  match E.tys.get t, k with
  | some { d := .int _, .. }, .int _ _ => true
  | some { d := .string, .. }, .str _ => true
  | _, _ => false

def zeroA (E : Env) (t : Nat) : Option AV := ob (E.tys.get t) fun ti => ob ti.zero fun cs => asTy ti cs

def setNth {α : Type} : List α → Nat → α → List α
  | [], _, _ => []
  | a :: as, n, x => bc (a :: setNth as (Nat.sub n 1) x) (x :: as) (Nat.beq n 0)

def dropNth {α : Type} : List α → Nat → List α
  | [], _ => []
  | a :: as, n => bc (a :: dropNth as (Nat.sub n 1)) as (Nat.beq n 0)

def decodeA (s : List Nat) (i : Nat) : Nat × Nat :=
  Lib.decodeN (Nat.sub s.length i) ((nth (s.drop i) 0).getD 0) ((nth (s.drop i) 1).getD 0) ((nth (s.drop i) 2).getD 0) ((nth (s.drop i) 3).getD 0)

def encodeA (r : Int) : List Nat := bytesOf (Utf8.encode r)

def bytesA : List AV → Option (List Nat)
  | [] => some []
  | v :: cs => match v with
    | .int .u8 (.ofNat b) => og (Nat.ble b 255) (ob (bytesA cs) fun bs => some (b :: bs))
    | _ => none

/-- conversions that make no memory -/
def convQ (E : Env) (hp : Heap) (src dst : Nat) (x : AV) : Option AV :=
  ob (E.tys.get src) fun si => ob (E.tys.get dst) fun di =>
  match di.d, x with
  | .int k, .int _ n => some (.int k (wrapA k n))
  | .string, .int _ n => og si.int?.isSome (some (.str (encodeA n)))
  | .string, .str s => some (.str s)
  | .string, x => ob si.slice? fun e => ob (E.tys.get e) fun ei => og ei.isU8 (ob (seqLen x) fun n => ob (firstA hp 1 n x) fun cs => ob (bytesA cs) fun bs => some (.str bs))
  | _, _ => none

def fieldA (E : Env) (t f : Nat) : Option (Nat × Nat × Bool) := ob (E.tys.get t) fun ti => ob ti.struct? fun fs => nth fs f

def nilOk : AV → Option AV
  | .ptr b off => some (.ptr b off)
  | .iface t v => some (.iface t v)
  | .func (.func f) c => some (.func (.func f) c)
  | _ => none

def partA (ti : TyI) (cs : List AV) (off : Nat) : Option AV :=
  bc (nth cs off) (some (.agg ((cs.drop off).take ti.size))) ti.agg

def opField (E : Env) (t f : Nat) (v : AV) : Option AV :=
  ob v.agg? fun cs => ob (fieldA E t f) fun fd => ob (E.tys.get fd.2.1) fun fi => partA fi cs fd.1

def opFieldAddr (E : Env) (t f : Nat) (v : AV) : Option AV :=
  ob v.ptr? fun (b, off) => ob (fieldA E t f) fun fd => ob (sizeA E fd.2.1) fun sz => og (!Nat.beq sz 0) (some (.ptr b (Nat.add off fd.1)))

def opIndexAddr (E : Env) (t : Nat) (x i : AV) : Option AV :=
  ob i.nat? fun n => ob (E.tys.get t) fun ti =>
  match ti.d, x with
  | .array len e, .ptr b off => og (Nat.ble (Nat.add n 1) len) (ob (sizeA E e) fun sz => some (.ptr b (Nat.add off (Nat.mul n sz))))
  | .slice e, .slice b off len _ => og (Nat.ble (Nat.add n 1) len) (ob (sizeA E e) fun sz => some (.ptr b (Nat.add off (Nat.mul n sz))))
  | .slice e, .oslice b off len esz => og (Nat.ble (Nat.add n 1) len) (ob (sizeA E e) fun sz => og (Nat.beq sz esz) (some (.ptr b (Nat.add off (Nat.mul n sz)))))
  | _, _ => none

def opIndex (E : Env) (t : Nat) (x i : AV) : Option AV :=
  ob i.nat? fun n => ob (E.tys.get t) fun ti =>
  match ti.d, x with
  | .string, .str l => ob (nth l n) fun b => some (.int .u8 (.ofNat b))
  | .array len e, .agg cs => og (Nat.ble (Nat.add n 1) len) (ob (E.tys.get e) fun ei => partA ei cs (Nat.mul n ei.size))
  | _, _ => none

def mapOf (hp : Heap) : AV → Option (List (AV × AV × Nat))
  | .nilMap => some []
  | .map b => ob (hp.get b) fun o => ob o.map? fun (es, _) => some es
  | _ => none

def withOk (ok : Bool) (v : AV) (is : Bool) : AV := bc v (.tup [v, .bool is]) ok

def opLookup (E : Env) (hp : Heap) (t : Nat) (ok : Bool) (m k : AV) : Option AV :=
  ob (E.tys.get t) fun ti => ob ti.map? fun (kt, e) => og (keyTy E kt k) (ob (mapOf hp m) fun es => ob (findA k es 0) fun r =>
    oc (ob (zeroA E e) fun z => some (withOk ok z false)) (fun p => some (withOk ok p.2 true)) r)

def opAssert (E : Env) (t : Nat) (ok : Bool) (x : AV) : Option AV :=
  ob (E.tys.get t) fun ti => og (!ti.isIface)
    (match x with
    | .iface u v => bc (og ok (ob (zeroA E t) fun z => some (.tup [z, .bool false]))) (some (withOk ok v true)) (Nat.beq u t)
    | .nilIface => og ok (ob (zeroA E t) fun z => some (.tup [z, .bool false]))
    | _ => none)

def opIface (E : Env) (t : Nat) (v : AV) : Option AV := ob (E.tys.get t) fun ti => og (!ti.isIface) (some (.iface t v))

def lastOf : List Nat → Option Nat
  | [] => none
  | [x] => some x
  | _ :: xs => lastOf xs

def bornAt (st : Nat) : List (AV × AV × Nat) → Option (AV × AV)
  | [] => none
  | e :: es => bc (bornAt st es) (some (e.1, e.2.1)) (Nat.beq e.2.2 st)

def iter? : AObj → Option (Nat × List Nat × Nat)
  | .mapIter m _ seen stepped => some (m, seen, stepped)
  | _ => none

def opEntry (hp : Heap) (it : AV) : Option AV :=
  ob it.ptr? fun (r, off) => og (Nat.beq off 0) (ob (hp.get r) fun o => ob (iter? o) fun (m, seen, stepped) => ob (lastOf seen) fun st =>
    ob (hp.get m) fun o' => ob o'.map? fun (es, clock) => og (Nat.beq clock stepped) (ob (bornAt st es) fun p => some (.tup [p.1, p.2])))

def minMax (mx : Bool) : AV → AV → Option AV
  | .int k a, .int _ b => some (.int k (bc (bc a b (ltInt b a)) (bc a b (ltInt a b)) mx))
  | _, _ => none

def foldMin (mx : Bool) : List AV → AV → Option AV
  | [], a => some a
  | x :: xs, a => ob (minMax mx a x) (foldMin mx xs)

def capA (E : Env) (t : Nat) (x : AV) : Option AV := ob (E.tys.get t) fun ti => ob ti.slice? fun _ =>
  match x with
  | .slice _ _ _ c => some (.int .i64 (.ofNat c))
  | .nilSlice => some (.int .i64 0)
  | _ => none
def builtinQ (E : Env) (b : Builtin) (ats : List Nat) (args : List AV) (hp : Heap) : Option AV :=
  match b, ats, args with
  | .len, t :: _, x :: _ => ob (lenA E hp t x) fun n => some (.int .i64 (.ofNat n))
  | .cap, t :: _, x :: _ => capA E t x
  | .min, _, a :: xs => foldMin false xs a
  | .max, _, a :: xs => foldMin true xs a
  | _, _, _ => none

def callQ (E : Env) (c : Call) (tm : PT AV) (hp : Heap) : Option AV :=
  match c.callee with
  | .builtin b => ob (opnds tm c.args.toList) fun args => builtinQ E b c.argTypes.toList args hp
  | _ => none

def isConst : Operand → Bool
  | .const _ => true
  | _ => false

def pickA (tm : PT AV) (c a b : Operand) : Option AV := ob (opnd tm c) fun v => ob v.bool? fun t => bc (opnd tm b) (opnd tm a) t

def funcQ (tm : PT AV) (fn : Fn) (first cap : List Operand) : Option AV := og first.isEmpty (ob (opnds tm cap) fun c => some (.func fn c))

def sliceQ (E : Env) (tm : PT AV) (hp : Heap) (t : Nat) (x : Operand) (lo hi mx : Option Operand) : Option AV :=
  ob (opnd tm x) fun v => ob (optOpnd tm lo) fun l => ob (optOpnd tm hi) fun h => ob (optOpnd tm mx) fun m => sliceA E hp t v l h m

/-- an operation that leaves memory alone -/
def opQ (E : Env) (op : Op) (tm : PT AV) (hp : Heap) : Option AV :=
  match op with
  | .move x => opnd tm x
  | .assign x => opnd tm x
  | .pick c a b => pickA tm c a b
  | .build t parts => ob (opndParts tm parts.toList) (buildA E t)
  | .load t a => ob (opnd tm a) (loadA E hp t)
  | .nilCheck x => ob (opnd tm x) nilOk
  | .binOp op t x y _ => ob (opnd tm x) fun a => ob (opnd tm y) fun b => binA E op t (isConst x || isConst y) a b
  | .unOp op _ x => ob (opnd tm x) (unA op)
  | .convert src dst x => ob (opnd tm x) (convQ E hp src dst)
  | .makeInterface t x => ob (opnd tm x) (opIface E t)
  | .makeFunc fn first cap => funcQ tm fn first.toList cap.toList
  | .slice t x lo hi mx => sliceQ E tm hp t x lo hi mx
  | .fieldAddr t x f => ob (opnd tm x) (opFieldAddr E t f)
  | .field t x f => ob (opnd tm x) (opField E t f)
  | .indexAddr t x i => ob (opnd tm x) fun v => ob (opnd tm i) fun j => opIndexAddr E t v j
  | .index t x i => ob (opnd tm x) fun v => ob (opnd tm i) fun j => opIndex E t v j
  | .lookup t x k ok => ob (opnd tm x) fun m => ob (opnd tm k) fun v => opLookup E hp t ok m v
  | .typeAssert x _ t ok => ob (opnd tm x) (opAssert E t ok)
  | .entry it => ob (opnd tm it) (opEntry hp)
  | .extract t i => ob (opnd tm t) fun v => ob v.tup? fun vs => nth vs i
  | .call c => callQ E c tm hp
  | _ => none

def row0 (nx : Nat) (cs : List AV) : Option (AV × AObj) := og (allOne cs) (some (.ptr nx 0, .cells (rowOf cs) [] cs.length))

def opSliceLit (E : Env) (nx t len : Nat) (parts : List (Nat × AV)) : Option (AV × AObj) :=
  ob (E.tys.get t) fun ti => ob ti.slice? fun e => ob (E.tys.get e) fun ei => ob ei.zero fun z => og (Nat.beq z.length ei.size) (og (!Nat.beq ei.size 0) (og (allOne z)
    (og (Nat.ble (Nat.mul len ei.size) 100000) (ob (fillA (fun i => some (Nat.mul i ei.size, ei.size)) (Nat.mul len ei.size) parts (rowOf (rep len z))) fun row =>
      og (known parts) (some (.slice nx 0 len len, .cells row [] (Nat.mul len ei.size)))))))

def opMakeSlice (E : Env) (nx t : Nat) (l c : AV) : Option (AV × AObj) :=
  ob l.nat? fun n => ob c.nat? fun m => ob (E.tys.get t) fun ti => ob ti.slice? fun e => ob (E.tys.get e) fun ei => ob ei.zero fun z =>
    og (Nat.beq z.length ei.size) (og (!Nat.beq ei.size 0) (og (allOne z) (og (Nat.ble n m) (og (Nat.ble m 1000000) (og (Nat.ble ei.bytes 100000) (some (.slice nx 0 n m, .cells .nil z (Nat.mul m ei.size))))))))

/-- an operation that makes one block; what it makes hangs on its operands alone -/
def opB (E : Env) (op : Op) (tm : PT AV) (nx : Nat) : Option (AV × AObj) :=
  match op with
  | .alloc t => ob (E.tys.get t) fun ti => ob ti.zero (row0 nx)
  | .box _ x => ob (opnd tm x) fun v => row0 nx v.cells
  | .buildSlice t len parts => ob (opndParts tm parts.toList) (opSliceLit E nx t len)
  | .makeSlice t l c => ob (opnd tm l) fun n => ob (opnd tm c) fun m => opMakeSlice E nx t n m
  | .makeMap _ none => some (.map nx, .map [] 0)
  | .range t x => ob (E.tys.get t) fun ti => og ti.isString (ob (opnd tm x) fun v => ob v.str? fun s => some (.ptr nx 0, .strIter s 0))
  | _ => none

inductive OpR where
  | val (v : AV) (hp : Heap) (nx : Nat)
  | enter (f : Nat) (args : List AV)
  | defer (f : AV) (args : List AV)
  | recover
  | pan (v : AV)

def seqBlk : AV → Option Nat
  | .slice b _ _ _ => some b
  | .oslice b _ _ _ => some b
  | _ => none
/-- functions without a body: 0: compare strings; 1: do two slices overlap? -/
def extA (hp : Heap) (k : Nat) (args : List AV) : Option AV :=
  match k, args with
  | 1, [x, y] => ob (seqBlk x) fun a => ob (seqBlk y) fun b => og (!Nat.beq a b) (ob (hp.get a) fun oa => ob oa.cells? fun _ => ob (hp.get b) fun o => ob o.cells? fun (_, _, n) => og (Nat.ble 1 n) (some (.bool false)))
  | 0, [.str a, .str b] => some (.int .i64 (bc (bc 1 0 (eqBytes a b)) (-1) (bytesLt a b)))
  | _, _ => none

def opStore (E : Env) (t : Nat) (hp : Heap) (nx : Nat) (p v : AV) : Option OpR := ob (storeA E hp t p v) fun hp' => some (.val (.tup []) hp' nx)

def opMapUpdate (E : Env) (t : Nat) (hp : Heap) (nx : Nat) (m k v : AV) : Option OpR :=
  ob (E.tys.get t) fun ti => ob ti.map? fun (kt, _) => og (keyTy E kt k) (ob m.map? fun b => ob (hp.get b) fun o => ob o.map? fun (es, clock) => ob (findA k es 0) fun r =>
    oc (some (.val (.tup []) (hp.put b (.map (es ++ [(k, v, clock)]) (Nat.add clock 1))) nx))
      (fun p => ob (nth es p.1) fun e => some (.val (.tup []) (hp.put b (.map (setNth es p.1 (k, v, e.2.2)) clock)) nx)) r)

def opDelete (E : Env) (t : Nat) (hp : Heap) (nx : Nat) (m k : AV) : Option OpR :=
  ob (E.tys.get t) fun ti => ob ti.map? fun (kt, _) => og (keyTy E kt k) (ob m.map? fun b => ob (hp.get b) fun o => ob o.map? fun (es, clock) => ob (findA k es 0) fun r =>
    oc (some (.val (.tup []) hp nx)) (fun p => some (.val (.tup []) (hp.put b (.map (dropNth es p.1) clock)) nx)) r)

def opRangeMap (hp : Heap) (nx : Nat) (m : AV) : Option OpR :=
  ob m.map? fun b => ob (hp.get b) fun o => ob o.map? fun (_, clock) => some (.val (.ptr nx 0) (hp.put nx (.mapIter b clock [] clock)) (Nat.add nx 1))

def elemNat (x : Nat) : List Nat → Bool
  | [] => false
  | y :: ys => bc (elemNat x ys) true (Nat.beq x y)

def leftOf (seen : List Nat) : List (AV × AV × Nat) → List (AV × AV × Nat)
  | [] => []
  | e :: es => bc (e :: leftOf seen es) (leftOf seen es) (elemNat e.2.2 seen)

def anyOld (last : Nat) : List (AV × AV × Nat) → Bool
  | [] => false
  | e :: es => bc (anyOld last es) true (Nat.ble (Nat.add e.2.2 1) last)

def opNext (hp : Heap) (nx : Nat) (isS : Bool) (it : AV) : Option OpR :=
  ob it.ptr? fun (r, off) => og (Nat.beq off 0) (ob (hp.get r) fun o =>
  match o with
  | .strIter t pos => og isS (bc (some (.val (.tup [.bool false]) hp nx))
      (some (.val (.tup [.bool true, .int .i64 (.ofNat pos), .int .i32 (.ofNat (decodeA t pos).1)]) (hp.put r (.strIter t (Nat.add pos (decodeA t pos).2))) nx))
      (Nat.ble (Nat.add pos 1) t.length))
  | .mapIter m since seen last => og (!isS) (ob (hp.get m) fun o => ob o.map? fun (es, clock) =>
      og (seen.isEmpty || es.isEmpty || anyOld last es)
      (match leftOf seen es with
      | [] => some (.val (.tup [.bool false]) hp nx)
      | [(k, v, born)] => og (Nat.ble (Nat.add born 1) since)
          (some (.val (.tup [.bool true, k, v]) (hp.put r (.mapIter m since (seen ++ [born]) clock)) nx))
      | _ => none))
  | _ => none)

def opBytes (_E : Env) (_src _dst : Nat) (_hp : Heap) (_nx : Nat) (_x : AV) : Option OpR := none

def clearA (E : Env) (t : Nat) (hp : Heap) : AV → Option Heap
  | .nilSlice => ob (E.tys.get t) fun _ => some hp
  | .slice b off len _ => ob (E.tys.get t) fun ti => ob ti.slice? fun e => ob (E.tys.get e) fun ei => ob ei.zero fun z => og (Nat.ble len 100000) (writeAt hp b off (rep len z))
  | .oslice b off len _ => ob (E.tys.get t) fun ti => ob ti.slice? fun e => ob (E.tys.get e) fun ei => ob ei.zero fun z => og (Nat.ble len 100000) (writeAt hp b off (rep len z))
  | _ => none

def builtinC (E : Env) (b : Builtin) (ats : List Nat) (args : List AV) (hp : Heap) (nx : Nat) : Option OpR :=
  match b, ats, args with
  | .append, st :: xt :: _, a :: x :: _ => ob (appendA E hp nx st xt a x) fun (v, hp', nx') => some (.val v hp' nx')
  | .copy, st :: _, d :: x :: _ => ob (copyA E hp st d x) fun (n, hp') => some (.val (.int .i64 (.ofNat n)) hp' nx)
  | .delete, t :: _, m :: k :: _ => opDelete E t hp nx m k
  | .clear, t :: _, x :: _ => ob (clearA E t hp x) fun hp' => some (.val (.tup []) hp' nx)
  | .panic, _, v :: _ => ob v.iface? fun p => some (.pan (.iface p.1 p.2))
  | .recover, _, _ => some .recover
  | _, _, _ => none

def callF (E : Env) (hp : Heap) (nx : Nat) (f : AV) (args : List AV) : Option OpR :=
  ob f.func? fun (g, cap) => oc (ob (E.fns.get g) fun _ => some (.enter g (args ++ cap))) (fun k => ob (extA hp k (args ++ cap)) fun v => some (.val v hp nx)) (E.ext.get g)

def callC (E : Env) (c : Call) (s : St) : Option OpR :=
  ob (opnds s.tm c.args.toList) fun args => match c.callee with
  | .builtin b => builtinC E b c.argTypes.toList args s.hp s.nx
  | .value f => ob (opnd s.tm f) fun v => callF E s.hp s.nx v args
  | _ => none

def deferC (tm : PT AV) (c : Call) : Option OpR :=
  match c.callee with
  | .value f => ob (opnds tm c.args.toList) fun args => ob (opnd tm f) fun v => ob v.func? fun _ => some (.defer v args)
  | _ => none

def panicC (v : AV) : Option OpR := ob v.iface? fun p => some (.pan (.iface p.1 p.2))

/-- any other operation -/
def opC (E : Env) (op : Op) (s : St) : Option OpR :=
  match op with
  | .store t a x => ob (opnd s.tm a) fun p => ob (opnd s.tm x) fun v => opStore E t s.hp s.nx p v
  | .mapUpdate t m k x => ob (opnd s.tm m) fun mv => ob (opnd s.tm k) fun kv => ob (opnd s.tm x) fun v => opMapUpdate E t s.hp s.nx mv kv v
  | .range t x => ob (E.tys.get t) fun ti => ob ti.map? fun _ => ob (opnd s.tm x) (opRangeMap s.hp s.nx)
  | .next it isS => ob (opnd s.tm it) (opNext s.hp s.nx isS)
  | .convert src dst x => ob (opnd s.tm x) (opBytes E src dst s.hp s.nx)
  | .call c => callC E c s
  | .defer c => deferC s.tm c
  | .panic x => ob (opnd s.tm x) panicC
  | _ => none

def isSliceTy (E : Env) (t : Nat) : Bool := match E.tys.get t with | some { d := .slice _, .. } => true | _ => false
def isStringTy (E : Env) (t : Nat) : Bool := match E.tys.get t with | some { d := .string, .. } => true | _ => false

def callK (c : Call) : OpK :=
  match c.callee with
  | .builtin .len | .builtin .cap | .builtin .min | .builtin .max => .quiet
  | _ => .loud

def kindOf (E : Env) : Op → OpK
  | .alloc _ | .box .. | .buildSlice .. | .makeSlice .. | .makeMap .. => .alloc
  | .range t _ => bc .loud .alloc (isStringTy E t)
  | .convert _ dst _ => bc .quiet .loud (isSliceTy E dst)
  | .call c => callK c
  | .store .. | .mapUpdate .. | .next .. | .defer _ | .panic _ => .loud
  | _ => .quiet

def putD (s : St) (d : Option Nat) (v : AV) : Option St :=
  match d with
  | some d => og (Nat.ble (Nat.add d 1) s.nt) (some { s with tm := s.tm.put d v })
  | none => some s

def wantedG (all : List Oper) (tm : PT AV) (j : Nat) (want : Bool) : Option Bool :=
  ob (nth all j) fun oj => ob oj.dst fun d => ob (tm.get d) fun v =>
    match v with
    | .bool b => some (b == want)
    | .tup [] => some false
    | _ => none

def wantedA (all : List Oper) (tm : PT AV) (o : Oper) : Option Bool :=
  match o.guard with
  | none => some true
  | some (j, want) => wantedG all tm j want

def resultsA (E : Env) (tm : PT AV) (hp : Heap) : List ResultVar → Option (List AV)
  | [] => some []
  | .tmp t :: rs => ob (tm.get t) fun v => ob (resultsA E tm hp rs) fun vs => some (v :: vs)
  | .cell a t :: rs => ob (tm.get a) fun p => ob (loadA E hp t p) fun v => ob (resultsA E tm hp rs) fun vs => some (v :: vs)

def packA : List AV → AV
  | [v] => v
  | vs => .tup vs

/-! ### plans of regions whose order is open -/

def edgesOf (o : Oper) : List Nat := (o.after.toList.filter fun e => Region.binds .any e).map (·.on)

/-- of each operation, as bits, all that must stand ahead of it -/
def masksFrom : List Oper → List Nat → List Nat
  | [], acc => acc
  | o :: os, acc => masksFrom os (acc ++ [(edgesOf o).foldl (fun m j => m ||| 2 ^ j ||| acc.getD j 0) 0])

def mkPIs (E : Env) : List Oper → List Nat → Nat → List PI
  | o :: os, m :: ms, i => ⟨i, o, kindOf E o.op, m⟩ :: mkPIs E os ms (Nat.add i 1)
  | _, _, _ => []

def within (m done : Nat) : Bool := Nat.beq (Nat.land m done) m

def isLoud : OpK → Bool
  | .loud => true
  | _ => false

/-- the quiet ones that nothing holds back -/
def takeQuiet : List PI → Nat → List PI × List PI × Nat
  | [], done => ([], [], done)
  | p :: ps, done =>
    if !isLoud p.k && within p.m done then let r := takeQuiet ps (Nat.lor done (2 ^ p.i)); (p :: r.1, r.2.1, r.2.2)
    else let r := takeQuiet ps done; (r.1, p :: r.2.1, r.2.2)

def takeLoud : List PI → Nat → Option (PI × List PI)
  | [], _ => none
  | p :: ps, done => if isLoud p.k && within p.m done then some (p, ps) else match takeLoud ps done with
    | some (q, qs) => some (q, p :: qs)
    | none => none

def orderOf : Nat → List PI → Nat → List PI
  | 0, _, _ => []
  | f + 1, ps, done =>
    let r := takeQuiet ps done
    r.1 ++ match takeLoud r.2.1 r.2.2 with
      | some (q, qs) => q :: orderOf f qs (Nat.lor r.2.2 (2 ^ q.i))
      | none => []

def readsOf (all : List Oper) (o : Oper) : List Nat :=
  (o.op.operands.toList.filterMap fun | .tmp t => some t | _ => none) ++
  (match o.guard with
   | some (g, _) => ((nth all g).bind (·.dst)).toList
   | none => [])

def elemOf (x : Nat) : List Nat → Bool
  | [] => false
  | y :: ys => bc (elemOf x ys) true (Nat.beq x y)

def sameDst (d : Nat) : Option Nat → Bool
  | some e => Nat.beq d e
  | none => false

/-- no slot is written twice; who reads what another writes is behind it or ahead of it -/
def pairOk (all : List Oper) (x y : PI) : Bool :=
  Nat.beq x.i y.i || (match x.o.dst with
  | none => true
  | some d => !sameDst d y.o.dst && (!elemOf d (readsOf all y.o) || (y.m.testBit x.i || x.m.testBit y.i)))

/-- what must stand ahead: the edges, and what must stand ahead of those -/
def maskOk (ms : List Nat) (n m : Nat) (es : List Nat) : Bool :=
  es.all (fun j => m.testBit j) && (List.range n).all fun j => !m.testBit j || es.any fun e => Nat.beq e j || (ms.getD e 0).testBit j

/-- the plan: each operation behind all that it waits for; all that follows a loud one waits for it -/
def planChk (all : List Oper) : List PI → Nat → Bool
  | [], done => Nat.beq done (2 ^ all.length - 1)
  | p :: ps, done => !done.testBit p.i && (within p.m done && ((!isLoud p.k || ps.all fun q => q.m.testBit p.i) && planChk all ps (Nat.lor done (2 ^ p.i))))

def wholeOk (all : List Oper) (ms : List Nat) : List PI → Bool
  | [] => true
  | p :: ps => Nat.ble (Nat.add p.m 1) (2 ^ p.i) && (maskOk ms all.length p.m (edgesOf p.o) && wholeOk all ms ps)

def planOf (E : Env) (all : List Oper) : Option (List PI) :=
  let ms := masksFrom all []
  let ps := mkPIs E all ms 0
  let pl := orderOf (Nat.add all.length 1) ps 0
  og (ps.all (fun x => ps.all (pairOk all x))) (og (wholeOk all ms ps) (og (planChk all pl 0) (some pl)))

/-- the slots that operations write are forgotten -/
def killD : List Oper → PT AV → PT AV
  | [], tm => tm
  | o :: os, tm => killD os (match o.dst with | some d => tm.del d | none => tm)

/-- the slots that an operation reads, no other -/
def pickTm (tm : PT AV) : List Nat → PT AV
  | [] => .nil
  | t :: ts => match tm.get t with
    | some v => (pickTm tm ts).put t v
    | none => pickTm tm ts

mutual
def sameAV : AV → AV → Bool
  | .bool a, .bool b => a == b
  | .int k a, .int k' b => eqKind k k' && eqInt a b
  | .str a, .str b => eqBytes a b
  | .nilPtr, .nilPtr => true
  | .ptr a b, .ptr c d => Nat.beq a c && Nat.beq b d
  | .nilSlice, .nilSlice => true
  | .slice a b c d, .slice e f g h => Nat.beq a e && Nat.beq b f && Nat.beq c g && Nat.beq d h
  | .oslice a b c d, .oslice e f g h => Nat.beq a e && Nat.beq b f && Nat.beq c g && Nat.beq d h
  | .nilMap, .nilMap => true
  | .map a, .map b => Nat.beq a b
  | .func f c, .func g d => decide (f = g) && sameAVs c d
  | .nilFunc, .nilFunc => true
  | .iface t v, .iface u w => Nat.beq t u && sameAV v w
  | .nilIface, .nilIface => true
  | .agg a, .agg b => sameAVs a b
  | .tup a, .tup b => sameAVs a b
  | .opq a, .opq b => Nat.beq a b
  | _, _ => false
def sameAVs : List AV → List AV → Bool
  | [], [] => true
  | a :: as, b :: bs => sameAV a b && sameAVs as bs
  | _, _ => false
end

/-- what may yet stand behind a loud operation answers the same behind it -/
def recheck (E : Env) (hp : Heap) : List Rec → Bool
  | [] => true
  | r :: rs => match r.x with
    | .quiet v => (match opQ E r.p.o.op r.tr hp with
      | some u => sameAV v u
      | none => false) && recheck E hp rs
    | _ => recheck E hp rs

/-- new blocks are put into memory: those whose operations stand ahead -/
def settleM (m : Nat) : List Rec → Heap → Heap
  | [], hp => hp
  | r :: rs, hp => match r.x with
    | .alloc b _ obj => if m.testBit r.p.i then settleM m rs (hp.put b obj) else settleM m rs hp
    | _ => settleM m rs hp

def leftM (m : Nat) : List Rec → List Rec
  | [] => []
  | r :: rs => if m.testBit r.p.i then leftM m rs else r :: leftM m rs

/-! ### the evaluator -/

/-- a quiet operation: as it is known, or by the table of facts -/
def opH (E : Env) (op : Op) (tm : PT AV) (hp : Heap) : Option AV := oc (E.fact op tm) some (opQ E op tm hp)

def stepOp (_E : Env) (ih : Task → Option Res) (all : List Oper) (o : Oper) (os : List Oper) (s : St) : OpR → Option Res
  | .val v hp nx => ob (putD { s with hp := hp, nx := nx } o.dst v) fun s' => ih (.ops all os s')
  | .enter f args => ob (ih (.call f args s.hp s.nx)) fun
    | .ret v hp nx => ob (putD { s with hp := hp, nx := nx } o.dst v) fun s' => ih (.ops all os s')
    | .pan v hp nx => some (.code (.panic v) { s with hp := hp, nx := nx })
    | _ => none
  | .defer f args => ob (putD { s with df := (f, args) :: s.df } o.dst (.tup [])) fun s' => ih (.ops all os s')
  | .recover => none
  | .pan v => some (.code (.panic v) s)

def stepOps (E : Env) (ih : Task → Option Res) (all : List Oper) (s : St) : List Oper → Option Res
  | [] => some (.code .normal s)
  | o :: os => ob (wantedA all s.tm o) fun w => bc
      (ob (putD s o.dst (.tup [])) fun s' => ih (.ops all os s'))
      (match kindOf E o.op with
        | .quiet => ob (opH E o.op s.tm s.hp) fun v => ob (putD s o.dst v) fun s' => ih (.ops all os s')
        | .alloc => ob (opB E o.op s.tm s.nx) fun (v, obj) => ob (putD { s with hp := s.hp.put s.nx obj, nx := Nat.add s.nx 1 } o.dst v) fun s' => ih (.ops all os s')
        | .loud => ob (opC E o.op s) (stepOp E ih all o os s)) w

/-- behind a loud operation -/
def afterD (E : Env) (ih : Task → Option Res) (all : List Oper) (o : Oper) (pl : List PI) (s : St) (pd : List Rec) (v : AV) (hp : Heap) (nx : Nat) : Option Res :=
  og (recheck E hp pd) (ob (putD { s with hp := hp, nx := nx } o.dst v) fun s' => ih (.dops all pl s' pd))

/-- 's' has its memory settled; 'pd' is what is left -/
def stepD (E : Env) (ih : Task → Option Res) (all : List Oper) (o : Oper) (pl : List PI) (s : St) (pd : List Rec) : OpR → Option Res
  | .val v hp nx => afterD E ih all o pl s pd v hp nx
  | .enter f args => ob (ih (.call f args s.hp s.nx)) fun
    | .ret v hp nx => afterD E ih all o pl s pd v hp nx
    | .pan v hp nx => some (.code (.panic v) { s with tm := killD all s.tm, hp := hp, nx := nx })
    | _ => none
  | .pan v => some (.code (.panic v) { s with tm := killD all s.tm })
  | _ => none

/-- an operation of the plan; 'tr': the slots that it reads -/
def stepDp (E : Env) (ih : Task → Option Res) (all : List Oper) (s : St) (pd : List Rec) (p : PI) (pl : List PI) (tr : PT AV) (w : Bool) : Option Res :=
  match p.k with
  | .quiet => bc (ob (putD s p.o.dst (.tup [])) fun s' => ih (.dops all pl s' (⟨p, tr, .skip⟩ :: pd)))
      (ob (opQ E p.o.op tr s.hp) fun v => ob (putD s p.o.dst v) fun s' => ih (.dops all pl s' (⟨p, tr, .quiet v⟩ :: pd))) w
  | .alloc => bc (ob (putD s p.o.dst (.tup [])) fun s' => ih (.dops all pl s' (⟨p, tr, .skip⟩ :: pd)))
      (ob (opB E p.o.op tr s.nx) fun (v, obj) => ob (putD { s with nx := Nat.add s.nx 1 } p.o.dst v) fun s' => ih (.dops all pl s' (⟨p, tr, .alloc s.nx v obj⟩ :: pd))) w
  | .loud => bc (afterD E ih all p.o pl s (leftM p.m pd) (.tup []) (settleM p.m pd s.hp) s.nx)
      (ob (opC E p.o.op { s with tm := tr, hp := settleM p.m pd s.hp }) (stepD E ih all p.o pl { s with hp := settleM p.m pd s.hp } (leftM p.m pd))) w

def stepDs (E : Env) (ih : Task → Option Res) (all : List Oper) (s : St) (pd : List Rec) : List PI → Option Res
  | [] => some (.code .normal { s with hp := settleM (2 ^ all.length - 1) pd s.hp })
  | p :: pl => ob (wantedA all (pickTm s.tm (readsOf all p.o)) p.o) (stepDp E ih all s pd p pl (pickTm s.tm (readsOf all p.o)))

def seqR (ih : Task → Option Res) (b : Code) : Res → Option Res
  | .code .normal s => ih (.code b s)
  | r => some r

def blockR (id : Nat) : Res → Option Res
  | .code (.exit j) s => some (.code (bc (.exit j) .normal (Nat.beq j id)) s)
  | r => some r

def loopR (ih : Task → Option Res) (c : Code) : Res → Option Res
  | .code .normal s => ih (.loop c s)
  | r => some r

def stepCode (E : Env) (ih : Task → Option Res) (s : St) (c : Code) : Option Res :=
  match c with
  | .skip => some (.code .normal s)
  | .label _ => some (.code .normal s)
  | .region _ ops draw => bc (ih (.ops ops.toList ops.toList s)) (ob (planOf E ops.toList) fun pl => ih (.dops ops.toList pl s [])) draw
  | .seq a b => ob (ih (.code a s)) (seqR ih b)
  | .cond c a b => ob (opnd s.tm c) fun v => ob v.bool? fun t => bc (ih (.code b s)) (ih (.code a s)) t
  | .block id c => ob (ih (.code c s)) (blockR id)
  | .loop c => ih (.loop c s)
  | .exit id => some (.code (.exit id) s)
  | .ret => some (.code .ret s)
  | _ => none

def argsSt (fn : Func) (args : List AV) (hp : Heap) (nx : Nat) : Option St :=
  og (Nat.ble args.length fn.ntmps) (some { tm := rowOf args, nt := fn.ntmps, df := [], hp := hp, nx := nx })

def leaveR (ih : Task → Option Res) (fn : Func) : Res → Option Res
  | .code .normal s => ih (.leave fn s.tm s.df none s.hp s.nx)
  | .code .ret s => ih (.leave fn s.tm s.df none s.hp s.nx)
  | .code (.panic v) s => ih (.leave fn s.tm s.df (some v) s.hp s.nx)
  | _ => none

def stepCall (E : Env) (ih : Task → Option Res) (f : Nat) (args : List AV) (hp : Heap) (nx : Nat) : Option Res :=
  oc
    (ob (E.fns.get f) fun fn => ob fn.body fun body => ob (argsSt fn args hp nx) fun s => ob (ih (.code body s)) (leaveR ih fn))
    (fun g => g args hp nx) (E.sum f)

def settleA : Option (AV × Bool) → Option AV
  | some (v, false) => some v
  | _ => none

def leaveD (E : Env) (ih : Task → Option Res) (gn fn : Func) (tm : PT AV) (df : List (AV × List AV)) : Res → Option Res
  | .dfr e s um => og (match e with | .normal | .ret => true | _ => false) (og s.df.isEmpty
      (ob (resultsA E s.tm s.hp gn.results.toList) fun _ => ih (.leave fn tm df (settleA um) s.hp s.nx)))
  | _ => none

def stepLeave (E : Env) (ih : Task → Option Res) (fn : Func) (tm : PT AV) (pan : Option AV) (hp : Heap) (nx : Nat) : List (AV × List AV) → Option Res
  | [] => oc (ob (resultsA E tm hp fn.results.toList) fun vs => some (.ret (packA vs) hp nx)) (fun v => some (.pan v hp nx)) pan
  | d :: df => ob d.1.func? fun (g, cap) => ob (E.fns.get g) fun gn => ob gn.body fun body => ob (argsSt gn (d.2 ++ cap) hp nx) fun s =>
      ob (ih (.rcode body s (oc none (fun v => some (v, false)) pan))) (leaveD E ih gn fn tm df)

/-- a deferred call's own code -/
def rseqR (ih : Task → Option Res) (b : Code) : Res → Option Res
  | .dfr .normal s um => ih (.rcode b s um)
  | r => some r

def stepRcode (ih : Task → Option Res) (s : St) (um : Option (AV × Bool)) (c : Code) : Option Res :=
  match c with
  | .skip => some (.dfr .normal s um)
  | .region _ ops draw => bc (ih (.rops ops.toList ops.toList s um)) none draw
  | .seq a b => ob (ih (.rcode a s um)) (rseqR ih b)
  | .cond c a b => ob (opnd s.tm c) fun v => ob v.bool? fun t => bc (ih (.rcode b s um)) (ih (.rcode a s um)) t
  | .ret => some (.dfr .ret s um)
  | _ => none

def recoverA (_s : St) (um : Option (AV × Bool)) : AV × Option (AV × Bool) :=
  match um with
  | some (v, false) => (v, some (v, true))
  | um => (.nilIface, um)

def stepRop (ih : Task → Option Res) (all : List Oper) (o : Oper) (os : List Oper) (s : St) (um : Option (AV × Bool)) : OpR → Option Res
  | .val v hp nx => ob (putD { s with hp := hp, nx := nx } o.dst v) fun s' => ih (.rops all os s' um)
  | .recover => ob (putD s o.dst (recoverA s um).1) fun s' => ih (.rops all os s' (recoverA s um).2)
  | _ => none

def stepRops (E : Env) (ih : Task → Option Res) (all : List Oper) (s : St) (um : Option (AV × Bool)) : List Oper → Option Res
  | [] => some (.dfr .normal s um)
  | o :: os => ob (wantedA all s.tm o) fun w => bc
      (ob (putD s o.dst (.tup [])) fun s' => ih (.rops all os s' um))
      (match kindOf E o.op with
        | .quiet => ob (opQ E o.op s.tm s.hp) fun v => ob (putD s o.dst v) fun s' => ih (.rops all os s' um)
        | .alloc => ob (opB E o.op s.tm s.nx) fun (v, obj) => ob (putD { s with hp := s.hp.put s.nx obj, nx := Nat.add s.nx 1 } o.dst v) fun s' => ih (.rops all os s' um)
        | .loud => ob (opC E o.op s) (stepRop ih all o os s um)) w

def step (E : Env) (ih : Task → Option Res) : Task → Option Res
  | .code c s => stepCode E ih s c
  | .loop c s => ob (ih (.code c s)) (loopR ih c)
  | .ops all rest s => stepOps E ih all s rest
  | .dops all pl s pd => stepDs E ih all s pd pl
  | .call f args hp nx => stepCall E ih f args hp nx
  | .leave fn tm df pan hp nx => stepLeave E ih fn tm pan hp nx df
  | .rcode c s um => stepRcode ih s um c
  | .rops all rest s um => stepRops E ih all s um rest

def run (E : Env) : Nat → Task → Option Res :=
  Nat.rec (motive := fun _ => Task → Option Res) (fun _ => none) (fun _ ih t => step E ih t)

end
end Go.Ev
