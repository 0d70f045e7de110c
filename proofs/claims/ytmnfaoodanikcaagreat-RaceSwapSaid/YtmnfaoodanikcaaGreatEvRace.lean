/- A function with a loop over a list that is not known: its run, by classes of the list. -/
import Derived.Test.YtmnfaoodanikcaaGreatEvHand
namespace Go.Ev
noncomputable section

/-- the pieces of the function's code -/
structure RC where
  pre : List Code
  r7 : Code
  i0 : Nat
  j8 : Nat
  ops8 : Array Oper
  c59 : Operand
  i1 : Nat
  r10 : Code
  r11 : Code
  c66 : Operand
  j12 : Nat
  ops12 : Array Oper
  j9 : Nat
  ops9 : Array Oper
  post : Code

def RC.body (r : RC) : Code :=
  nest r.pre (.seq (.seq r.r7 (.block r.i0 (.loop (.seq (.seq (.region r.j8 r.ops8 false) (.cond r.c59 .skip (.exit r.i0)))
    (.seq (.block r.i1 (.seq r.r10 (.seq r.r11 (.cond r.c66 (.region r.j12 r.ops12 false) .skip)))) (.region r.j9 r.ops9 false)))))) r.post)

def rcTail : Code → Option RC
  | .seq (.seq r7 (.block i0 (.loop (.seq (.seq (.region j8 ops8 false) (.cond c59 .skip (.exit _)))
      (.seq (.block i1 (.seq r10 (.seq r11 (.cond c66 (.region j12 ops12 false) .skip)))) (.region j9 ops9 false)))))) post =>
    some ⟨[], r7, i0, j8, ops8, c59, i1, r10, r11, c66, j12, ops12, j9, ops9, post⟩
  | _ => none

def rcOf : Nat → Code → Option RC
  | 0, c => rcTail c
  | n + 1, c => match rcTail c with
    | some r => some r
    | none => match c with
      | .seq x y => (rcOf n y).map fun r => { r with pre := x :: r.pre }
      | _ => none

/-- the table of facts: 'c1': is there one more; 'c2': is it below the bound; 'd': which of two -/
def isIdx (ki : Option Nat) (v : AV) : Bool :=
  match ki, v with
  | some k, .int .i64 (.ofNat j) => Nat.beq j k
  | none, .opq j => Nat.beq j 1
  | _, _ => false
def isOpq (k : Nat) : Option AV → Bool
  | some (.opq j) => Nat.beq j k
  | _ => false

def tabLss (ki : Option Nat) (c1 c2 : Bool) (x y : Option AV) : Option AV :=
  match x, y with
  | some i, some (.opq k) => og (isIdx ki i && Nat.beq k 2) (some (.bool c1))
  | some (.opq k), some (.int .i64 (.ofNat b)) => og (Nat.beq k 1 && Nat.beq b 100) (some (.bool c2))
  | _, _ => none
def tabRem (d : Option Nat) (x y : Option AV) : Option AV :=
  og (isOpq 6 x) (match y with
  | some (.int .u64 (.ofNat m)) => bc (og (Nat.beq m 2) (ob d fun d => some (.int .u64 (.ofNat d)))) (some (.int .u64 (.ofNat 0))) (Nat.beq m 1)
  | _ => none)
def tabAdd (x y : Option AV) : Option AV :=
  og (isOpq 1 x) (match y with
  | some (.int .i64 (.ofNat b)) => og (Nat.beq b 1) (some (.opq 3))
  | _ => none)

def tab (ti tu ts : Nat) (ki : Option Nat) (c1 c2 : Bool) (d : Option Nat) (op : Op) (tm : PT AV) : Option AV :=
  match op with
  | .call c => (match c.callee, c.argTypes.toList, c.args.toList with
    | .builtin .len, t :: _, [x] => og (Nat.beq t ts && isOpq 0 (opnd tm x)) (some (.opq 2))
    | _, _, _ => none)
  | .binOp .lss _ x y _ => tabLss ki c1 c2 (opnd tm x) (opnd tm y)
  | .binOp .add _ x y _ => tabAdd (opnd tm x) (opnd tm y)
  | .binOp .rem _ x y _ => tabRem d (opnd tm x) (opnd tm y)
  | .indexAddr t x i => og (c1 && Nat.beq t ts && isOpq 0 (opnd tm x)) (ob (opnd tm i) fun v => og (isIdx ki v) (some (.opq 4)))
  | .load t x => og (c1 && Nat.beq t ti && isOpq 4 (opnd tm x)) (some (.opq 5))
  | .convert s t x => og (Nat.beq s ti && (Nat.beq t tu && isOpq 5 (opnd tm x))) (some (.opq 6))
  | _ => none

def normal? : Res → Option St
  | .code .normal s => some s
  | _ => none

section
variable (E : Env) (n : Nat) (r : RC)

/-- one round -/
def pass (H : Op → PT AV → Option AV) (s : St) : Option St :=
  ob (runH E H r.ops8.toList r.ops8.toList s) fun s8 => ob (opnd s8.tm r.c59) fun v => ob v.bool? fun t => og t <|
  ob (run E n (.code r.r10 s8)) fun x => ob (normal? x) fun s10 => ob (run E n (.code r.r11 s10)) fun y => ob (normal? y) fun s11 =>
  ob (opnd s11.tm r.c66) fun v => ob v.bool? fun t =>
    bc (runH E H r.ops9.toList r.ops9.toList s11)
      (ob (runH E H r.ops12.toList (r.ops12.toList.take 11) s11) fun s12 => ob (run E n (.ops r.ops12.toList (r.ops12.toList.drop 11) s12)) fun z => ob (normal? z) fun s13 =>
        runH E H r.ops9.toList r.ops9.toList s13) t

/-- is this the loop's end? -/
def endsAt (H : Op → PT AV → Option AV) (s : St) : Bool :=
  match ob (runH E H r.ops8.toList r.ops8.toList s) fun s8 => ob (opnd s8.tm r.c59) AV.bool? with
  | some b => !b
  | none => false

def slotI : Nat := 15
def noI (s : St) : St := pure1 { s with tm := pickTm s.tm (List.range slotI) }
def withI (s : St) : St := { s with tm := s.tm.put slotI (.opq 1) }
def endS (s : St) : St := noI { s with tm := killD r.ops8.toList s.tm }

def isTwo : Option AV → Bool
  | some (.int .i64 (.ofNat j)) => Nat.beq j 2
  | _ => false

def idles (T : Option Nat → Bool → Bool → Option Nat → Op → PT AV → Option AV) (s : St) : Bool :=
  match pass E n r (T none true true none) (withI s) with
  | some s' => isOpq 3 (s'.tm.get slotI) && (cleanPT s.tm && (cleanHeap s.hp && (subTm s.tm (noI s').tm && (subHeap s.hp s'.hp && (Nat.beq s'.nt s.nt && (s.df.isEmpty && s'.df.isEmpty))))))
  | none => false

/-- the state at the loop's end, by classes -/
def loopE (T : Option Nat → Bool → Bool → Option Nat → Op → PT AV → Option AV) (m d : Nat) (s0 : St) : Option St :=
  match m with
  | 0 => og (endsAt E r (T (some 0) false true none) s0) (some (endS r s0))
  | 1 => ob (pass E n r (T (some 0) true true (some d)) s0) fun s1 => og (s1.df.isEmpty && endsAt E r (T (some 1) false true none) (pure1 s1)) (some (endS r (pure1 s1)))
  | _ => ob (pass E n r (T (some 0) true true (some d)) s0) fun s1 => og s1.df.isEmpty <| ob (pass E n r (T (some 1) true true none) (pure1 s1)) fun s2 =>
      og (isTwo (s2.tm.get slotI) && s2.df.isEmpty && idles E n r T (noI s2) && (endsAt E r (T none false false none) (withI (noI s2)) && (endsAt E r (T none false true none) (withI (noI s2)) && endsAt E r (T none true false none) (withI (noI s2))))) (some (endS r (withI (noI s2))))

def raceE (T : Option Nat → Bool → Bool → Option Nat → Op → PT AV → Option AV) (m d : Nat) (fn : Func) (args : List AV) (hp : Heap) (nx : Nat) : Option Res :=
  ob (argsSt fn args hp nx) fun s => ob (runSeq E n r.pre s) fun x => ob (normal? x) fun s1 => ob (runSeq E n [r.r7] s1) fun y => ob (normal? y) fun s2 =>
    og s2.df.isEmpty <| ob (loopE E n r T m d (pure1 s2)) fun s3 => ob (run E n (.code r.post s3)) (leaveR (run E n) fn)
end
end
end Go.Ev
