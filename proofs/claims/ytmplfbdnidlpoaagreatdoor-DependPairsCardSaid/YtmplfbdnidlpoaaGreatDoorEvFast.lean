/- The evaluator once more, made for the kernel: what hangs on the program's text alone is reckoned once, and kept. -/
import Derived.Test.YtmplfbdnidlpoaaGreatDoorEvSum
namespace Go.Ev
noncomputable section

/-! ### values, looked at -/
inductive IntR where
  | no
  | yes (k : IntKind) (n : Int)
inductive PtrR where
  | no
  | yes (b off : Nat)
inductive BoolR where
  | no
  | yes (b : Bool)
inductive SeqR where
  | no
  | sl (b off len : Nat)
  | osl (b off len esz : Nat)
  | str (s : List Nat)
inductive AggR where
  | no
  | agg (cs : List AV)
  | tup (cs : List AV)

def toInt (v : AV) : IntR := AV.rec (motive_1 := fun _ => IntR) (motive_2 := fun _ => Unit) (fun _ => .no) (fun k n => .yes k n) (fun _ => .no) .no (fun _ _ => .no) .no (fun _ _ _ _ => .no) (fun _ _ _ _ => .no) .no
  (fun _ => .no) (fun _ _ _ => .no) .no (fun _ _ _ => .no) .no (fun _ _ => .no) (fun _ _ => .no) (fun _ => .no) () (fun _ _ _ _ => ()) v
def toPtr (v : AV) : PtrR := AV.rec (motive_1 := fun _ => PtrR) (motive_2 := fun _ => Unit) (fun _ => .no) (fun _ _ => .no) (fun _ => .no) .no (fun b o => .yes b o) .no (fun _ _ _ _ => .no) (fun _ _ _ _ => .no) .no
  (fun _ => .no) (fun _ _ _ => .no) .no (fun _ _ _ => .no) .no (fun _ _ => .no) (fun _ _ => .no) (fun _ => .no) () (fun _ _ _ _ => ()) v
def toBool (v : AV) : BoolR := AV.rec (motive_1 := fun _ => BoolR) (motive_2 := fun _ => Unit) (fun b => .yes b) (fun _ _ => .no) (fun _ => .no) .no (fun _ _ => .no) .no (fun _ _ _ _ => .no) (fun _ _ _ _ => .no) .no
  (fun _ => .no) (fun _ _ _ => .no) .no (fun _ _ _ => .no) .no (fun _ _ => .no) (fun _ _ => .no) (fun _ => .no) () (fun _ _ _ _ => ()) v
def toSeq (v : AV) : SeqR := AV.rec (motive_1 := fun _ => SeqR) (motive_2 := fun _ => Unit) (fun _ => .no) (fun _ _ => .no) (fun s => .str s) .no (fun _ _ => .no) .no (fun b o l _ => .sl b o l) (fun b o l e => .osl b o l e) .no
  (fun _ => .no) (fun _ _ _ => .no) .no (fun _ _ _ => .no) .no (fun _ _ => .no) (fun _ _ => .no) (fun _ => .no) () (fun _ _ _ _ => ()) v
def toAgg (v : AV) : AggR := AV.rec (motive_1 := fun _ => AggR) (motive_2 := fun _ => Unit) (fun _ => .no) (fun _ _ => .no) (fun _ => .no) .no (fun _ _ => .no) .no (fun _ _ _ _ => .no) (fun _ _ _ _ => .no) .no
  (fun _ => .no) (fun _ _ _ => .no) .no (fun _ _ _ => .no) .no (fun cs _ => .agg cs) (fun cs _ => .tup cs) (fun _ => .no) () (fun _ _ _ _ => ()) v

section
variable {β : Type}
def intC (v : AV) (n : β) (f : IntKind → Int → β) : β := IntR.rec (motive := fun _ => β) n f (toInt v)
def ptrC (v : AV) (n : β) (f : Nat → Nat → β) : β := PtrR.rec (motive := fun _ => β) n f (toPtr v)
def boolC (v : AV) (n : β) (f : Bool → β) : β := BoolR.rec (motive := fun _ => β) n f (toBool v)
def seqC (v : AV) (n : β) (f : Nat → Nat → Nat → β) (g : Nat → Nat → Nat → Nat → β) (h : List Nat → β) : β := SeqR.rec (motive := fun _ => β) n f g h (toSeq v)
end

/-! ### integers -/
def natC {β : Type} (n : Int) (f : Nat → β) (g : β) : β := Int.rec (motive := fun _ => β) f (fun _ => g) n

def wrap64F (n : Int) : Int := Int.rec (motive := fun _ => Int) (fun m => bc (IntKind.wrap .i64 (.ofNat m)) (.ofNat m) (Nat.ble m 9223372036854775807)) (fun m => bc (IntKind.wrap .i64 (.negSucc m)) (.negSucc m) (Nat.ble m 9223372036854775807)) n
theorem wrap64F_eq (n : Int) : wrap64F n = wrap64 n := by cases n <;> rfl
def isI64 (k : IntKind) : Bool := IntKind.rec (motive := fun _ => Bool) false false false true false false false false k
theorem isI64_eq {k : IntKind} (h : isI64 k = true) : k = .i64 := by cases k <;> first | rfl | cases h
def wrapF (k : IntKind) (n : Int) : Int := bc (wrapA k n) (wrap64F n) (isI64 k)
theorem wrapF_eq (k : IntKind) (n : Int) : wrapF k n = wrapA k n := by
  unfold wrapF
  cases h : isI64 k with
  | false => rfl
  | true => rw [isI64_eq h]; exact wrap64F_eq n
def kindN (k : IntKind) : Nat := IntKind.rec (motive := fun _ => Nat) 0 1 2 3 4 5 6 7 k
def eqKindF (a b : IntKind) : Bool := Nat.beq (kindN a) (kindN b)
theorem eqKindF_eq (a b : IntKind) : eqKindF a b = eqKind a b := by cases a <;> cases b <;> rfl
def addF (a b : Int) : Int := natC a (fun m => natC b (fun n => .ofNat (Nat.add m n)) (Int.add a b)) (Int.add a b)
theorem addF_eq (a b : Int) : addF a b = a + b := by cases a <;> cases b <;> rfl
def subF (a b : Int) : Int := natC a (fun m => natC b (fun n => bc (Int.sub a b) (.ofNat (Nat.sub m n)) (Nat.ble n m)) (Int.sub a b)) (Int.sub a b)
theorem subF_eq (a b : Int) : subF a b = a - b := by
  cases a with
  | negSucc m => rfl
  | ofNat m =>
    cases b with
    | negSucc n => rfl
    | ofNat n =>
      show bc (Int.sub _ _) (Int.ofNat (Nat.sub m n)) (Nat.ble n m) = _
      cases h : Nat.ble n m with
      | false => rfl
      | true =>
        have h := ble_iff.1 h
        show Int.ofNat (m - n) = (m : Int) - (n : Int)
        exact Int.ofNat_sub h
def eqF (a b : Int) : Bool := Int.rec (motive := fun _ => Bool) (fun m => Int.rec (motive := fun _ => Bool) (fun n => Nat.beq m n) (fun _ => false) b) (fun m => Int.rec (motive := fun _ => Bool) (fun _ => false) (fun n => Nat.beq m n) b) a
theorem eqF_eq (a b : Int) : eqF a b = eqInt a b := by cases a <;> cases b <;> rfl
def ltF (a b : Int) : Bool := Int.rec (motive := fun _ => Bool) (fun m => Int.rec (motive := fun _ => Bool) (fun n => Nat.ble (Nat.add m 1) n) (fun _ => false) b)
  (fun m => Int.rec (motive := fun _ => Bool) (fun _ => true) (fun n => Nat.ble (Nat.add n 1) m) b) a
theorem ltF_eq (a b : Int) : ltF a b = ltInt a b := by cases a <;> cases b <;> rfl
def notF (b : Bool) : Bool := bc true false b
theorem notF_eq (b : Bool) : notF b = !b := by cases b <;> rfl

/-- an operation on integers -/
def intW (op : BinOp) : W (IntKind → Int → Int → Option AV) :=
  match op with
  | .add => .mk fun k a b => some (.int k (wrapF k (addF a b)))
  | .sub => .mk fun k a b => some (.int k (wrapF k (subF a b)))
  | .eql => .mk fun _ a b => some (.bool (eqF a b))
  | .neq => .mk fun _ a b => some (.bool (notF (eqF a b)))
  | .lss => .mk fun _ a b => some (.bool (ltF a b))
  | .gtr => .mk fun _ a b => some (.bool (ltF b a))
  | .leq => .mk fun _ a b => some (.bool (notF (ltF b a)))
  | .geq => .mk fun _ a b => some (.bool (notF (ltF a b)))
  | op => .mk (intBin op)
theorem intW_eq (op : BinOp) : intW op = .mk (intBin op) := by
  cases op <;> simp only [intW] <;> first
    | rfl
    | (congr 1; funext k a b; simp only [intBin, wrapF_eq, addF_eq, subF_eq, eqF_eq, ltF_eq, notF_eq, leInt])

def binW (E : Env) (op : BinOp) (t : Nat) (c : Bool) : W (AV → AV → Option AV) :=
  W.bind (intW op) fun f => bc (.mk fun x y => intC x (binA E op t c x y) fun k a => intC y (binA E op t c x y) fun k' b => og (eqKindF k k') (f k a b))
    (.mk (binA E op t c)) (isShift op)
theorem binW_eq (E : Env) (op : BinOp) (t : Nat) (c : Bool) : binW E op t c = .mk (binA E op t c) := by
  unfold binW
  rw [intW_eq, W.bind_mk]
  cases h : isShift op with
  | true => rfl
  | false =>
    simp only [bc_false]
    congr 1
    funext x y
    cases x <;> try rfl
    cases y <;> try rfl
    show og (eqKindF _ _) _ = _
    rw [eqKindF_eq]
    simp only [binA, h, Bool.false_or]

/-! ### operands -/
def getK {α : Type} (f : T1 α → T2 α → T4 α → BT α → Option α) (t : PT α) : Option α := PT.rec (motive := fun _ => Option α) f t
def getW {α : Type} (k : Nat) : W (PT α → Option α) := W.bind (PT.wayG k) fun f => .mk (getK f)
theorem getW_eq {α : Type} (k : Nat) : (getW k : W (PT α → Option α)) = .mk fun t => t.get k := by
  unfold getW
  have : (fun t : PT α => t.get k) = fun t => W.rec (motive := fun _ => Option α) (fun f => PT.rec (motive := fun _ => Option α) f t) (PT.wayG k) := rfl
  rw [this]
  cases PT.wayG k
  rfl
def putK {α : Type} (p : Option α → T1 α → T2 α → T4 α → BT α → PT α) (x : α) (t : PT α) : PT α := PT.rec (motive := fun _ => PT α) (p (some x)) t
def putW {α : Type} (k : Nat) : W (α → PT α → PT α) := W.bind (PT.wayP k) fun p => .mk (putK p)
theorem putW_eq {α : Type} (k : Nat) : (putW k : W (α → PT α → PT α)) = .mk fun x t => t.put k x := by
  unfold putW
  have : (fun (x : α) (t : PT α) => t.put k x) = fun x t => W.rec (motive := fun _ => PT α) (fun f => PT.rec (motive := fun _ => PT α) (f (some x)) t) (PT.wayP k) := rfl
  rw [this]
  cases PT.wayP k
  rfl

def opndW (x : Operand) : W (PT AV → Option AV) :=
  match x with
  | .tmp t => getW t
  | .const v => oc (.mk fun _ => none) (fun a => .mk fun _ => some a) (ofValue v)
  | .global _ => .mk fun _ => none
  | .func f => .mk fun _ => some (.func (.func f) [])
theorem opndW_eq (x : Operand) : opndW x = .mk fun tm => opnd tm x := by
  cases x with
  | tmp t => exact getW_eq t
  | const v => simp only [opndW, opnd]; cases ofValue v <;> rfl
  | global g => rfl
  | func f => rfl

/-! ### memory -/
def load1 (hp : Heap) (p : AV) : Option AV := ptrC p none fun b off => ob (hp.get b) fun o => ob o.cells? fun x => Prod.rec (motive := fun _ => Option AV) (fun t y => Prod.rec (motive := fun _ => Option AV) (fun z n => cellOf t z n off) y) x
def loadW (E : Env) (t : Nat) : W (Heap → AV → Option AV) :=
  oc (.mk fun hp p => loadA E hp t p) (fun ti => bc (.mk fun hp p => loadA E hp t p) (.mk load1) (Nat.beq ti.size 1 && !ti.agg)) (E.tys.get t)
theorem loadW_eq (E : Env) (t : Nat) : loadW E t = .mk fun hp p => loadA E hp t p := by
  unfold loadW
  cases ht : E.tys.get t with
  | none => rfl
  | some ti =>
    simp only [oc_some]
    cases hb : (Nat.beq ti.size 1 && !ti.agg) with
    | false => rfl
    | true =>
      simp only [bc_true]
      simp only [Bool.and_eq_true, Bool.not_eq_true'] at hb
      have h1 := beq_iff.1 hb.1
      congr 1
      funext hp p
      cases p <;> try rfl
      rename_i b off
      show (ob (hp.get b) fun o => ob o.cells? fun x => _) = ob (E.tys.get t) fun ti => ob (readAt hp b off ti.size) (asTy ti)
      rw [ht]
      show _ = ob (readAt hp b off ti.size) (asTy ti)
      rw [h1]
      unfold readAt
      cases hp.get b with
      | none => rfl
      | some o =>
        show (ob o.cells? fun x => _) = ob (ob o.cells? fun x => _) (asTy ti)
        cases o.cells? with
        | none => rfl
        | some x =>
          obtain ⟨t, z, n⟩ := x
          show cellOf t z n off = ob (cellsFrom t z n 1 off) (asTy ti)
          simp only [cellsFrom]
          cases cellOf t z n off with
          | none => rfl
          | some v => show some v = bc (one? [v]) (some (.agg [v])) ti.agg; rw [hb.2]; rfl

/-- a field's place, if it has cells -/
def fieldO (E : Env) (t f : Nat) : Option Nat := ob (fieldA E t f) fun fd => ob (sizeA E fd.2.1) fun sz => og (!Nat.beq sz 0) (some fd.1)
def fieldW (E : Env) (t f : Nat) : W (AV → Option AV) :=
  oc (.mk fun _ => none) (fun d => .mk fun v => ptrC v none fun b off => some (.ptr b (Nat.add off d))) (fieldO E t f)
theorem fieldW_eq (E : Env) (t f : Nat) : fieldW E t f = .mk (opFieldAddr E t f) := by
  unfold fieldW
  have key : ∀ v, opFieldAddr E t f v = ob v.ptr? fun p => ob (fieldO E t f) fun d => some (.ptr p.1 (Nat.add p.2 d)) := by
    intro v
    unfold opFieldAddr fieldO
    cases v.ptr? with
    | none => rfl
    | some p =>
      show (ob (fieldA E t f) fun fd => _) = ob (ob (fieldA E t f) fun fd => _) _
      cases fieldA E t f with
      | none => rfl
      | some fd =>
        show (ob (sizeA E fd.2.1) fun sz => _) = ob (ob (sizeA E fd.2.1) fun sz => _) _
        cases sizeA E fd.2.1 with
        | none => rfl
        | some sz => show og _ _ = ob (og _ _) _; cases (!Nat.beq sz 0) <;> rfl
  have : opFieldAddr E t f = fun v => ob v.ptr? fun p => ob (fieldO E t f) fun d => some (.ptr p.1 (Nat.add p.2 d)) := funext key
  rw [this]
  cases fieldO E t f with
  | none => simp only [oc_none]; congr 1; funext v; cases v <;> rfl
  | some d => simp only [oc_some]; congr 1; funext v; cases v <;> rfl

/-- the element's size of a slice type -/
def elemSz (E : Env) (t : Nat) : Option Nat := ob (E.tys.get t) fun ti => ob ti.slice? fun e => sizeA E e
def indexW (E : Env) (t : Nat) : W (AV → AV → Option AV) :=
  oc (.mk (opIndexAddr E t)) (fun sz => .mk fun x i => intC i (opIndexAddr E t x i) fun _ n => natC n (fun n =>
    seqC x (opIndexAddr E t x i) (fun b off len => og (Nat.ble (Nat.add n 1) len) (some (.ptr b (Nat.add off (Nat.mul n sz))))) (fun b off len esz => og (Nat.ble (Nat.add n 1) len) (og (Nat.beq sz esz) (some (.ptr b (Nat.add off (Nat.mul n sz)))))) (fun _ => opIndexAddr E t x i))
    (opIndexAddr E t x i)) (elemSz E t)
theorem indexW_eq (E : Env) (t : Nat) : indexW E t = .mk (opIndexAddr E t) := by
  unfold indexW
  cases h : elemSz E t with
  | none => rfl
  | some sz =>
    simp only [oc_some]
    congr 1
    funext x i
    unfold elemSz at h
    cases ht : E.tys.get t with
    | none => rw [ht] at h; cases h
    | some ti =>
      rw [ht] at h
      have h : (ob ti.slice? fun e => sizeA E e) = some sz := h
      cases hd : ti.slice? with
      | none => rw [hd] at h; cases h
      | some e =>
        rw [hd] at h
        have h : sizeA E e = some sz := h
        have hd' : ti.d = .slice e := by
          unfold TyI.slice? at hd
          split at hd
          · rename_i e' he; injection hd with hd; subst hd; exact he
          · cases hd
        cases i <;> try rfl
        rename_i k n
        cases n <;> try rfl
        rename_i n
        cases x <;> try rfl
        · show _ = opIndexAddr E t _ _
          simp only [opIndexAddr, AV.nat?, ht, hd', h, ob]
          rfl
        · show _ = opIndexAddr E t _ _
          simp only [opIndexAddr, AV.nat?, ht, hd', h, ob]
          rfl

/-- is this a slice or a string? -/
def isSeqTy (E : Env) (t : Nat) : Nat := oc 0 (fun ti => match ti.d with | .slice _ => 1 | .string => 2 | _ => 0) (E.tys.get t)
def lenW (E : Env) (t : Nat) : W (Heap → AV → Option Nat) :=
  bc (bc (.mk fun hp x => lenA E hp t x) (.mk fun hp x => seqC x (lenA E hp t x) (fun _ _ _ => lenA E hp t x) (fun _ _ _ _ => lenA E hp t x) (fun s => some s.length)) (Nat.beq (isSeqTy E t) 2))
    (.mk fun hp x => seqC x (lenA E hp t x) (fun _ _ n => some n) (fun _ _ n _ => some n) (fun _ => lenA E hp t x)) (Nat.beq (isSeqTy E t) 1)
theorem lenW_eq (E : Env) (t : Nat) : lenW E t = .mk fun hp x => lenA E hp t x := by
  unfold lenW
  cases h1 : Nat.beq (isSeqTy E t) 1 with
  | true =>
    have h1 := beq_iff.1 h1
    simp only [bc_true]
    congr 1
    funext hp x
    unfold isSeqTy at h1
    cases ht : E.tys.get t with
    | none => rw [ht] at h1; cases h1
    | some ti =>
      rw [ht] at h1
      simp only [oc_some] at h1
      split at h1
      · rename_i e he
        cases x <;> try rfl
        · simp only [lenA, ht, he, ob]; rfl
        · simp only [lenA, ht, he, ob]; rfl
      · cases h1
      · cases h1
  | false =>
    simp only [bc_false]
    cases h2 : Nat.beq (isSeqTy E t) 2 with
    | false => rfl
    | true =>
      have h2 := beq_iff.1 h2
      simp only [bc_true]
      congr 1
      funext hp x
      unfold isSeqTy at h2
      cases ht : E.tys.get t with
      | none => rw [ht] at h2; cases h2
      | some ti =>
        rw [ht] at h2
        simp only [oc_some] at h2
        split at h2
        · cases h2
        · rename_i he
          cases x <;> try rfl
          simp only [lenA, ht, he, ob]; rfl
        · cases h2
end
end Go.Ev
