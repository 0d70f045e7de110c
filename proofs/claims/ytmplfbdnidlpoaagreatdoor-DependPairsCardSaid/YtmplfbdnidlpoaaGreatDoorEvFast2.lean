/- The fast evaluator: operations, code. -/
import Derived.Test.YtmplfbdnidlpoaaGreatDoorEvFastM
import Derived.Test.YtmplfbdnidlpoaaGreatDoorEvPlanF
namespace Go.Ev
noncomputable section

/-- a call that leaves memory alone: len -/
def lenOpW (E : Env) (c : Call) : W (PT AV → Heap → Option AV) :=
  match c.callee, c.argTypes.toList, c.args.toList with
  | .builtin .len, t :: _, [x] => W.bind (opndW x) fun f => W.bind (lenW E t) fun g => .mk fun tm hp => ob (f tm) fun v => ob (g hp v) fun n => some (.int .i64 (.ofNat n))
  | _, _, _ => .mk fun tm hp => callQ E c tm hp
theorem lenOpW_eq (E : Env) (c : Call) : lenOpW E c = .mk fun tm hp => callQ E c tm hp := by
  unfold lenOpW
  split
  · rename_i t ts x h1 h2 h3
    rw [opndW_eq, lenW_eq, W.bind_mk, W.bind_mk]
    congr 1
    funext tm hp
    unfold callQ
    rw [h1, h2, h3]
    show (ob (opnd tm x) fun v => ob (lenA E hp t v) fun n => some (.int .i64 (.ofNat n))) = ob (ob (opnd tm x) fun a => ob (some []) fun as => some (a :: as)) fun args => builtinQ E .len (t :: ts) args hp
    cases opnd tm x <;> rfl
  · rfl

/-- an operation that leaves memory alone -/
def qopW (E : Env) (op : Op) : W (PT AV → Heap → Option AV) :=
  match op with
  | .move x => W.bind (opndW x) fun f => .mk fun tm _ => f tm
  | .assign x => W.bind (opndW x) fun f => .mk fun tm _ => f tm
  | .pick c a b => W.bind (opndW c) fun f => W.bind (opndW a) fun g => W.bind (opndW b) fun h => .mk fun tm _ => ob (f tm) fun v => boolC v none fun t => bc (h tm) (g tm) t
  | .load t a => W.bind (opndW a) fun f => W.bind (loadW E t) fun l => .mk fun tm hp => ob (f tm) (l hp)
  | .binOp op t x y _ => W.bind (opndW x) fun f => W.bind (opndW y) fun g => W.bind (binW E op t (isConst x || isConst y)) fun h => .mk fun tm _ => ob (f tm) fun a => ob (g tm) (h a)
  | .fieldAddr t x k => W.bind (opndW x) fun f => W.bind (fieldW E t k) fun h => .mk fun tm _ => ob (f tm) h
  | .indexAddr t x i => W.bind (opndW x) fun f => W.bind (opndW i) fun g => W.bind (indexW E t) fun h => .mk fun tm _ => ob (f tm) fun v => ob (g tm) (h v)
  | .nilCheck x => W.bind (opndW x) fun f => .mk fun tm _ => ob (f tm) nilOk
  | .unOp op _ x => W.bind (opndW x) fun f => .mk fun tm _ => ob (f tm) (unA op)
  | .convert src dst x => W.bind (opndW x) fun f => .mk fun tm hp => ob (f tm) (convQ E hp src dst)
  | .makeInterface t x => W.bind (opndW x) fun f => .mk fun tm _ => ob (f tm) (opIface E t)
  | .field t x k => W.bind (opndW x) fun f => .mk fun tm _ => ob (f tm) (opField E t k)
  | .index t x i => W.bind (opndW x) fun f => W.bind (opndW i) fun g => .mk fun tm _ => ob (f tm) fun v => ob (g tm) fun j => opIndex E t v j
  | .lookup t x k ok => W.bind (opndW x) fun f => W.bind (opndW k) fun g => W.bind (lookW E t ok) fun h => .mk fun tm hp => ob (f tm) fun m => ob (g tm) (h hp m)
  | .typeAssert x _ t ok => W.bind (opndW x) fun f => .mk fun tm _ => ob (f tm) (opAssert E t ok)
  | .extract t i => W.bind (opndW t) fun f => .mk fun tm _ => ob (f tm) fun v => ob v.tup? fun vs => nth vs i
  | .call c => lenOpW E c
  | op => .mk fun tm hp => opQ E op tm hp
theorem qopW_eq (E : Env) (op : Op) : qopW E op = .mk fun tm hp => opQ E op tm hp := by
  cases op <;> simp only [qopW, opndW_eq, lookW_eq, loadW_eq, binW_eq, fieldW_eq, indexW_eq, lenOpW_eq, W.bind_mk] <;> try rfl
  congr 1
  funext tm hp
  show _ = pickA tm _ _ _
  unfold pickA
  congr 1
  funext v
  cases v <;> rfl

/-! ### one operation, and what follows -/
abbrev IH := Task → Option Res
abbrev Df := List (AV × List AV)
abbrev Flat := IH → PT AV → Nat → Df → Heap → Nat → Option Res

/-- is there such a slot? -/
def okD (d : Option Nat) (nt : Nat) : Bool := oc true (fun d => Nat.ble (Nat.add d 1) nt) d
def pOf (d : Option Nat) (v : AV) (tm : PT AV) : PT AV := oc tm (fun d => tm.put d v) d
def pN (_ : AV) (tm : PT AV) : PT AV := tm
def pW (d : Option Nat) : W (AV → PT AV → PT AV) := oc (.mk pN) putW d
theorem pW_eq (d : Option Nat) : pW d = .mk (pOf d) := by
  cases d with
  | none => rfl
  | some d => exact putW_eq d
theorem putD_eq (s : St) (d : Option Nat) (v : AV) : putD s d v = og (okD d s.nt) (some { s with tm := pOf d v s.tm }) := by
  cases d <;> rfl

def kQ (E : Env) (op : Op) (q : PT AV → Heap → Option AV) (p : AV → PT AV → PT AV) (d : Option Nat) (all os : List Oper) : Flat := fun ih tm nt df hp nx =>
  ob (oc (E.fact op tm) some (q tm hp)) fun v => og (okD d nt) (ih (.ops all os (.mk (p v tm) nt df hp nx)))
def kG (g : PT AV → Option Bool) (p : AV → PT AV → PT AV) (d : Option Nat) (all os : List Oper) (k : Flat) : Flat := fun ih tm nt df hp nx =>
  ob (g tm) fun w => bc (og (okD d nt) (ih (.ops all os (.mk (p (.tup []) tm) nt df hp nx)))) (k ih tm nt df hp nx) w
def kA (b : PT AV → Nat → Option (AV × AObj)) (p : AV → PT AV → PT AV) (d : Option Nat) (all os : List Oper) : Flat := fun ih tm nt df hp nx =>
  ob (b tm nx) fun x => Prod.rec (motive := fun _ => Option Res) (fun v obj => og (okD d nt) (ih (.ops all os (.mk (p v tm) nt df (hp.put nx obj) (Nat.add nx 1))))) x
/-- behind a call -/
def kR (p : AV → PT AV → PT AV) (d : Option Nat) (all os : List Oper) (ih : IH) (tm : PT AV) (nt : Nat) (df : Df) (r : Res) : Option Res :=
  match r with
  | .ret v hp nx => og (okD d nt) (ih (.ops all os (.mk (p v tm) nt df hp nx)))
  | .pan v hp nx => some (.code (.panic v) (.mk tm nt df hp nx))
  | _ => none
def kC (f : Nat) (as : PT AV → Option (List AV)) (p : AV → PT AV → PT AV) (d : Option Nat) (all os : List Oper) : Flat := fun ih tm nt df hp nx =>
  ob (as tm) fun args => ob (ih (.call f args hp nx)) (kR p d all os ih tm nt df)
/-- a store -/
def kW (f g : PT AV → Option AV) (h : Heap → AV → AV → Option Heap) (p : AV → PT AV → PT AV) (d : Option Nat) (all os : List Oper) : Flat := fun ih tm nt df hp nx =>
  ob (f tm) fun a => ob (g tm) fun v => ob (h hp a v) fun hp' => og (okD d nt) (ih (.ops all os (.mk (p (.tup []) tm) nt df hp' nx)))

def isAgg (v : AV) : Bool := AggR.rec (motive := fun _ => Bool) false (fun _ => true) (fun _ => true) (toAgg v)
def store1 (hp : Heap) (p v : AV) : Option Heap := ptrC p none fun b off => ob (hp.get b) fun o => ob o.cells? fun x => Prod.rec (motive := fun _ => Option Heap) (fun t y => Prod.rec (motive := fun _ => Option Heap)
  (fun z n => og (Nat.ble (Nat.add off 1) n) (og v.one (some (hp.put b (.cells (t.put off v) z n))))) y) x
def storW (E : Env) (t : Nat) : W (Heap → AV → AV → Option Heap) :=
  oc (.mk fun hp p v => storeA E hp t p v) (fun ti => bc (.mk fun hp p v => storeA E hp t p v) (.mk fun hp p v => bc (store1 hp p v) (storeA E hp t p v) (isAgg v)) (Nat.beq ti.size 1)) (E.tys.get t)
theorem storW_eq (E : Env) (t : Nat) : storW E t = .mk fun hp p v => storeA E hp t p v := by
  unfold storW
  cases ht : E.tys.get t with
  | none => rfl
  | some ti =>
    simp only [oc_some]
    cases hb : Nat.beq ti.size 1 with
    | false => rfl
    | true =>
      simp only [bc_true]
      have h1 := beq_iff.1 hb
      congr 1
      funext hp p v
      cases ha : isAgg v with
      | true => rfl
      | false =>
        simp only [bc_false]
        have hc : v.cells = [v] := by cases v <;> first | rfl | cases ha
        cases p <;> try rfl
        rename_i b off
        show (ob (hp.get b) fun o => ob o.cells? fun x => _) = ob (E.tys.get t) fun ti => og (Nat.beq v.cells.length ti.size) (writeAt hp b off v.cells)
        rw [ht, hc]
        show _ = og (Nat.beq 1 ti.size) (writeAt hp b off [v])
        rw [h1]
        show _ = writeAt hp b off [v]
        unfold writeAt
        congr 1
        funext o
        congr 1
        funext x
        obtain ⟨t, z, n⟩ := x
        show og (Nat.ble (Nat.add off 1) n) (og v.one _) = og (Nat.ble (Nat.add off 1) n) (og (bc false true v.one) _)
        cases v.one <;> rfl

/-- operands in a row -/
def opndsW : List Operand → W (PT AV → Option (List AV))
  | [] => .mk fun _ => some []
  | o :: os => W.bind (opndW o) fun f => W.bind (opndsW os) fun g => .mk fun tm => ob (f tm) fun a => ob (g tm) fun as => some (a :: as)
theorem opndsW_eq : ∀ (l : List Operand), opndsW l = .mk fun tm => opnds tm l
  | [] => rfl
  | o :: os => by
    simp only [opndsW, opndW_eq, opndsW_eq os, W.bind_mk]
    rfl

/-- a guard -/
def beqB (a b : Bool) : Bool := bc (notF b) b a
def gOf (want : Bool) (v : AV) : Option Bool := boolC v (match v with | .tup [] => some false | _ => none) (fun b => some (beqB b want))
def slotOf (all : List Oper) (j : Nat) : Option Nat := ob (nth all j) fun oj => oj.dst
def guardW (all : List Oper) (g : Option (Nat × Bool)) : Option (W (PT AV → Option Bool)) :=
  oc none (fun p => some (oc (.mk fun _ => none) (fun d => W.bind (getW d) fun f => .mk fun tm => ob (f tm) (gOf p.2)) (slotOf all p.1))) g
theorem guardW_eq (all : List Oper) (o : Oper) (g : Nat × Bool) (h : o.guard = some g) : guardW all (some g) = some (.mk fun tm => wantedA all tm o) := by
  obtain ⟨j, want⟩ := g
  have hw : (fun tm => wantedA all tm o) = fun tm => wantedG all tm j want := by funext tm; simp only [wantedA, h]
  rw [hw]
  show some (oc _ _ (slotOf all j)) = _
  congr 1
  have e : ∀ tm, wantedG all tm j want = ob (slotOf all j) fun d => ob (tm.get d) fun v => match v with
    | .bool b => some (b == want)
    | .tup [] => some false
    | _ => none := by
    intro tm
    unfold wantedG slotOf
    cases nth all j with
    | none => rfl
    | some oj => rfl
  rw [show (fun tm => wantedG all tm j want) = fun tm => _ from funext e]
  cases slotOf all j with
  | none => rfl
  | some d =>
    simp only [oc_some, getW_eq, W.bind_mk]
    congr 1
    funext tm
    show (ob (tm.get d) _) = ob (tm.get d) _
    congr 1
    funext v
    cases v <;> try rfl
    · rename_i b
      cases b <;> cases want <;> rfl
    · rename_i vs
      cases vs <;> rfl

/-- what makes a block -/
def row0W (cs : List AV) : W (Nat → Option (AV × AObj)) := bc (.mk fun _ => none) (.mk fun nx => some (.ptr nx 0, .cells (rowOf cs) [] cs.length)) (allOne cs)
theorem row0W_eq (cs : List AV) : row0W cs = .mk fun nx => row0 nx cs := by
  unfold row0W row0
  cases allOne cs <;> rfl
def bopW (E : Env) (op : Op) : W (PT AV → Nat → Option (AV × AObj)) :=
  match op with
  | .alloc t => oc (.mk fun _ _ => none) (fun z => W.bind (row0W z) fun f => .mk fun _ nx => f nx) (ob (E.tys.get t) fun ti => ti.zero)
  | .box _ x => W.bind (opndW x) fun f => .mk fun tm nx => ob (f tm) fun v => row0 nx v.cells
  | op => .mk fun tm nx => opB E op tm nx
theorem bopW_eq (E : Env) (op : Op) : bopW E op = .mk fun tm nx => opB E op tm nx := by
  cases op <;> simp only [bopW] <;> try rfl
  · rename_i t
    have e : ∀ tm nx, opB E (.alloc t) tm nx = ob (ob (E.tys.get t) fun ti => ti.zero) (row0 nx) := by
      intro tm nx
      show (ob (E.tys.get t) fun ti => ob ti.zero (row0 nx)) = _
      cases E.tys.get t <;> rfl
    rw [show (fun tm nx => opB E (.alloc t) tm nx) = fun tm nx => _ from funext fun tm => funext fun nx => e tm nx]
    cases (ob (E.tys.get t) fun ti => ti.zero) with
    | none => rfl
    | some z => simp only [oc_some, row0W_eq, W.bind_mk]; rfl
  · rw [opndW_eq, W.bind_mk]; rfl

/-- a call of a function that the program's text names -/
def staticF (E : Env) (op : Op) : Option (Nat × List Operand) :=
  match op with
  | .call c => (match c.callee with
    | .value (.func f) => bc (some (f, c.args.toList)) none ((E.ext.get f).isSome || (E.fns.get f).isNone)
    | _ => none)
  | _ => none
theorem ob_some' {α β : Type} (x : α) (f : α → Option β) : ob (some x) f = f x := rfl
theorem staticF_opC {E : Env} {op : Op} {f : Nat} {as : List Operand} (h : staticF E op = some (f, as)) (s : St) : opC E op s = ob (opnds s.tm as) fun args => some (.enter f (args ++ [])) := by
  unfold staticF at h
  split at h
  · rename_i c
    split at h
    · rename_i g hc
      rw [bc_eq] at h
      split at h
      · cases h
      · rename_i hb
        injection h with h
        injection h with h1 h2
        subst h1; subst h2
        simp only [Bool.or_eq_true, not_or, Bool.not_eq_true, Option.isSome_eq_false_iff, Option.isNone_iff_eq_none] at hb
        obtain ⟨hb1, hb2⟩ := hb
        obtain ⟨fn, hfn⟩ := Option.ne_none_iff_exists'.1 hb2
        show callC E c s = _
        unfold callC
        rw [hc]
        congr 1
        funext args
        show callF E s.hp s.nx (.func (.func g) []) args = _
        simp only [callF, AV.func?, ob_some', hb1, hfn, oc_none]
    · cases h
  · cases h

def cop1 (E : Env) (all : List Oper) (o : Oper) (os : List Oper) : W Flat :=
  W.bind (pW o.dst) fun p => match kindOf E o.op with
  | .quiet => W.bind (qopW E o.op) fun q => .mk (kQ E o.op q p o.dst all os)
  | .alloc => W.bind (bopW E o.op) fun b => .mk (kA b p o.dst all os)
  | .loud => match o.op with
    | .store t a x => W.bind (opndW a) fun f => W.bind (opndW x) fun g => W.bind (storW E t) fun h => .mk (kW f g h p o.dst all os)
    | op => oc (.mk fun ih tm nt df hp nx => ob (opC E op (.mk tm nt df hp nx)) (stepOp E ih all o os (.mk tm nt df hp nx)))
      (fun x => W.bind (opndsW x.2) fun as => .mk (kC x.1 as p o.dst all os)) (staticF E op)
/-- what stepOps does behind its guard -/
def behind (E : Env) (ih : IH) (all : List Oper) (o : Oper) (os : List Oper) (s : St) : Option Res :=
  match kindOf E o.op with
  | .quiet => ob (opH E o.op s.tm s.hp) fun v => ob (putD s o.dst v) fun s' => ih (.ops all os s')
  | .alloc => ob (opB E o.op s.tm s.nx) fun (v, obj) => ob (putD { s with hp := s.hp.put s.nx obj, nx := Nat.add s.nx 1 } o.dst v) fun s' => ih (.ops all os s')
  | .loud => ob (opC E o.op s) (stepOp E ih all o os s)
theorem ob_og {α : Type} (c : Bool) (x : St) (f : St → Option α) : ob (og c (some x)) f = og c (f x) := by cases c <;> rfl
theorem ob_ob {α β γ : Type} (x : Option α) (f : α → Option β) (g : β → Option γ) : ob (ob x f) g = ob x fun a => ob (f a) g := by cases x <;> rfl
theorem cop1_eq (E : Env) (all : List Oper) (o : Oper) (os : List Oper) : cop1 E all o os = .mk fun ih tm nt df hp nx => behind E ih all o os (.mk tm nt df hp nx) := by
  unfold cop1
  rw [pW_eq, W.bind_mk]
  cases hk : kindOf E o.op with
  | quiet =>
    simp only [qopW_eq, W.bind_mk]
    congr 1
    funext ih tm nt df hp nx
    simp only [behind, hk, putD_eq, kQ, ob_og, opH]
  | alloc =>
    simp only [bopW_eq, W.bind_mk]
    congr 1
    funext ih tm nt df hp nx
    simp only [behind, hk, putD_eq, kA, ob_og]
  | loud =>
    simp only
    split
    · rename_i t a x hop
      simp only [opndW_eq, storW_eq, W.bind_mk]
      congr 1
      funext ih tm nt df hp nx
      simp only [behind, hk, kW]
      rw [hop]
      show _ = ob (ob (opnd tm a) fun p => ob (opnd tm x) fun v => ob (storeA E hp t p v) fun hp' => some (OpR.val (.tup []) hp' nx)) (stepOp E ih all o os (.mk tm nt df hp nx))
      simp only [ob_ob]
      congr 1
      funext p
      congr 1
      funext v
      congr 1
      funext hp'
      show _ = stepOp E ih all o os _ (OpR.val (.tup []) hp' nx)
      simp only [stepOp, putD_eq, ob_og]
    · cases hs : staticF E o.op with
      | none =>
        simp only [oc_none]
        congr 1
        funext ih tm nt df hp nx
        simp only [behind, hk]
      | some x =>
        obtain ⟨f, as⟩ := x
        simp only [oc_some, opndsW_eq, W.bind_mk]
        congr 1
        funext ih tm nt df hp nx
        simp only [behind, hk, staticF_opC hs, ob_ob, kC, List.append_nil]
        congr 1
        funext args
        show _ = stepOp E ih all o os _ (.enter f args)
        simp only [stepOp]
        congr 1
        funext r
        cases r <;> simp only [kR, putD_eq, ob_og]

def copW (E : Env) (all : List Oper) (o : Oper) (os : List Oper) : W Flat :=
  oc (cop1 E all o os) (fun g => W.bind g fun g => W.bind (pW o.dst) fun p => W.bind (cop1 E all o os) fun k => .mk (kG g p o.dst all os k)) (guardW all o.guard)
theorem copW_eq (E : Env) (all : List Oper) (o : Oper) (os : List Oper) : copW E all o os = .mk fun ih tm nt df hp nx => stepOps E ih all (.mk tm nt df hp nx) (o :: os) := by
  unfold copW
  cases hg : o.guard with
  | none =>
    show cop1 E all o os = _
    rw [cop1_eq]
    congr 1
    funext ih tm nt df hp nx
    simp only [stepOps, wantedA, hg]
    rfl
  | some g =>
    rw [guardW_eq all o g hg]
    simp only [oc_some, W.bind_mk, pW_eq, cop1_eq]
    congr 1
    funext ih tm nt df hp nx
    simp only [stepOps, kG]
    congr 1
    funext w
    cases w with
    | false => simp only [bc_false, putD_eq, ob_og]
    | true => rfl

def opsN (_E : Env) (_ih : IH) (_all : List Oper) (s : St) : Option Res := some (.code .normal s)
def opsC (o : Oper) (os : List Oper) (E : Env) (ih : IH) (all : List Oper) (s : St) : Option Res :=
  St.rec (motive := fun _ => Option Res) (W.rec (motive := fun _ => PT AV → Nat → Df → Heap → Nat → Option Res) (fun f => f ih) (copW E all o os)) s
def opsF (rest : List Oper) : Env → IH → List Oper → St → Option Res :=
  List.rec (motive := fun _ => Env → IH → List Oper → St → Option Res) opsN (fun o os _ => opsC o os) rest
theorem opsF_eq (E : Env) (ih : IH) (all : List Oper) (s : St) (rest : List Oper) : opsF rest E ih all s = stepOps E ih all s rest := by
  cases rest with
  | nil => rfl
  | cons o os =>
    obtain ⟨tm, nt, df, hp, nx⟩ := s
    show W.rec (motive := fun _ => PT AV → Nat → Df → Heap → Nat → Option Res) (fun f => f ih) (copW E all o os) tm nt df hp nx = _
    rw [copW_eq]

/-! ### regions of open order -/
theorem opnd_pick {tm : PT AV} {l : List Nat} {x : Operand} (h : ∀ t, x = .tmp t → t ∈ l) : opnd (pickTm tm l) x = opnd tm x := by
  cases x <;> try rfl
  rename_i t
  show (pickTm tm l).get t = tm.get t
  rw [get_pickTm, if_pos (h t rfl)]
/-- operations whose operands are few and plain -/
def plain : Op → Bool
  | .move _ | .assign _ | .pick .. | .load .. | .binOp .. | .fieldAddr .. | .indexAddr .. | .nilCheck _ | .unOp .. | .convert .. | .makeInterface .. | .field .. | .index .. | .lookup .. | .typeAssert .. | .extract .. => true
  | _ => false
theorem opQ_pick {E : Env} {op : Op} (hp : plain op = true) {tm : PT AV} {l : List Nat} (h : ∀ x ∈ op.operands.toList, ∀ t, x = .tmp t → t ∈ l) (m : Heap) : opQ E op (pickTm tm l) m = opQ E op tm m := by
  cases op <;> simp only [plain, Bool.false_eq_true] at hp <;> simp only [Op.operands, List.mem_cons, List.not_mem_nil, or_false, forall_eq_or_imp, forall_eq] at h
  case pick => simp only [opQ, pickA, opnd_pick h.1, opnd_pick h.2.1, opnd_pick h.2.2]
  case binOp => simp only [opQ, opnd_pick h.1, opnd_pick h.2]
  case indexAddr => simp only [opQ, opnd_pick h.1, opnd_pick h.2]
  case index => simp only [opQ, opnd_pick h.1, opnd_pick h.2]
  case lookup => simp only [opQ, opnd_pick h.1, opnd_pick h.2]
  all_goals simp only [opQ, opnd_pick h]
theorem reads_op (all : List Oper) (o : Oper) : ∀ x ∈ o.op.operands.toList, ∀ t, x = .tmp t → t ∈ readsOf all o := by
  rintro x hx t rfl
  unfold readsOf
  refine List.mem_append_left _ (List.mem_filterMap.2 ⟨_, hx, rfl⟩)
theorem wanted_pick (all : List Oper) (o : Oper) (tm : PT AV) : wantedA all (pickTm tm (readsOf all o)) o = wantedA all tm o := by
  unfold wantedA
  cases hg : o.guard with
  | none => rfl
  | some g =>
    obtain ⟨j, want⟩ := g
    show wantedG all _ j want = wantedG all _ j want
    unfold wantedG
    cases hn : nth all j with
    | none => rfl
    | some oj =>
      show (ob oj.dst fun d => _) = ob oj.dst fun d => _
      cases hd : oj.dst with
      | none => rfl
      | some d =>
        show (ob ((pickTm tm (readsOf all o)).get d) _) = ob (tm.get d) _
        rw [get_pickTm, if_pos]
        unfold readsOf
        refine List.mem_append_right _ ?_
        rw [hg]
        simp [hn, hd]

abbrev FlatD := IH → List Rec → PT AV → Nat → Df → Heap → Nat → Option Res
def dQ (q : PT AV → Heap → Option AV) (p : AV → PT AV → PT AV) (d : Option Nat) (x : PI) (rd : List Nat) (all : List Oper) (pl : List PI) : FlatD := fun ih pd tm nt df hp nx =>
  ob (q tm hp) fun v => og (okD d nt) (ih (.dops all pl (.mk (p v tm) nt df hp nx) (⟨x, pickTm tm rd, .quiet v⟩ :: pd)))
def dSkip (p : AV → PT AV → PT AV) (d : Option Nat) (x : PI) (rd : List Nat) (all : List Oper) (pl : List PI) : FlatD := fun ih pd tm nt df hp nx =>
  og (okD d nt) (ih (.dops all pl (.mk (p (.tup []) tm) nt df hp nx) (⟨x, pickTm tm rd, .skip⟩ :: pd)))
def dG (g : PT AV → Option Bool) (k0 k1 : FlatD) : FlatD := fun ih pd tm nt df hp nx => ob (g tm) fun w => bc (k0 ih pd tm nt df hp nx) (k1 ih pd tm nt df hp nx) w
def dSlow (E : Env) (all : List Oper) (x : PI) (pl : List PI) : FlatD := fun ih pd tm nt df hp nx => stepDs E ih all (.mk tm nt df hp nx) pd (x :: pl)

def isQuiet : OpK → Bool
  | .quiet => true
  | _ => false
def dopW (E : Env) (all : List Oper) (x : PI) (pl : List PI) : W FlatD :=
  bc (.mk (dSlow E all x pl))
    (W.bind (pW x.o.dst) fun p => W.bind (qopW E x.o.op) fun q =>
      oc (.mk (dQ q p x.o.dst x (readsOf all x.o) all pl)) (fun g => W.bind g fun g => .mk (dG g (dSkip p x.o.dst x (readsOf all x.o) all pl) (dQ q p x.o.dst x (readsOf all x.o) all pl))) (guardW all x.o.guard))
    (isQuiet x.k && plain x.o.op)
theorem dopW_eq (E : Env) (all : List Oper) (x : PI) (pl : List PI) : dopW E all x pl = .mk fun ih pd tm nt df hp nx => stepDs E ih all (.mk tm nt df hp nx) pd (x :: pl) := by
  unfold dopW
  cases hb : (isQuiet x.k && plain x.o.op) with
  | false => rfl
  | true =>
    simp only [bc_true]
    simp only [Bool.and_eq_true] at hb
    obtain ⟨hk, hp⟩ := hb
    have hk : x.k = .quiet := by cases h : x.k <;> rw [h] at hk <;> first | rfl | cases hk
    rw [pW_eq, W.bind_mk, qopW_eq, W.bind_mk]
    have key : ∀ (ih : IH) pd tm nt df hp nx, stepDs E ih all (.mk tm nt df hp nx) pd (x :: pl) = ob (wantedA all tm x.o) fun w => bc (dSkip (pOf x.o.dst) x.o.dst x (readsOf all x.o) all pl ih pd tm nt df hp nx)
        (dQ (fun tm hp => opQ E x.o.op tm hp) (pOf x.o.dst) x.o.dst x (readsOf all x.o) all pl ih pd tm nt df hp nx) w := by
      intro ih pd tm nt df m nx
      simp only [stepDs, wanted_pick]
      congr 1
      funext w
      simp only [stepDp, hk, putD_eq, ob_og, dSkip, dQ]
      rw [opQ_pick hp (reads_op all x.o)]
    cases hg : x.o.guard with
    | none =>
      show W.mk _ = _
      congr 1
      funext ih pd tm nt df m nx
      rw [key]
      simp only [wantedA, hg]
      rfl
    | some g =>
      rw [guardW_eq all x.o g hg]
      simp only [oc_some, W.bind_mk]
      congr 1
      funext ih pd tm nt df m nx
      rw [key]
      rfl

def dopsN (E : Env) (ih : IH) (all : List Oper) (pd : List Rec) (s : St) : Option Res := stepDs E ih all s pd []
def dopsC (x : PI) (pl : List PI) (E : Env) (ih : IH) (all : List Oper) (pd : List Rec) (s : St) : Option Res :=
  St.rec (motive := fun _ => Option Res) (W.rec (motive := fun _ => PT AV → Nat → Df → Heap → Nat → Option Res) (fun f => f ih pd) (dopW E all x pl)) s
def dopsF (pl : List PI) : Env → IH → List Oper → List Rec → St → Option Res :=
  List.rec (motive := fun _ => Env → IH → List Oper → List Rec → St → Option Res) dopsN (fun x pl _ => dopsC x pl) pl
theorem dopsF_eq (E : Env) (ih : IH) (all : List Oper) (pd : List Rec) (s : St) (pl : List PI) : dopsF pl E ih all pd s = stepDs E ih all s pd pl := by
  cases pl with
  | nil => rfl
  | cons x pl =>
    obtain ⟨tm, nt, df, hp, nx⟩ := s
    show W.rec (motive := fun _ => PT AV → Nat → Df → Heap → Nat → Option Res) (fun f => f ih pd) (dopW E all x pl) tm nt df hp nx = _
    rw [dopW_eq]

/-! ### code -/
def kSeq (a b : Code) (ih : IH) (s : St) : Option Res := ob (ih (.code a s)) (seqR ih b)
def kCond (f : PT AV → Option AV) (a b : Code) (ih : IH) (s : St) : Option Res := ob (f s.tm) fun v => boolC v none fun t => bc (ih (.code b s)) (ih (.code a s)) t
def codeW (E : Env) (c : Code) : W (IH → St → Option Res) :=
  match c with
  | .region _ ops draw => bc (.mk fun ih s => ih (.ops ops.toList ops.toList s)) (oc (.mk fun _ _ => none) (fun pl => .mk fun ih s => ih (.dops ops.toList pl s [])) (planF E ops.toList)) draw
  | .seq a b => .mk (kSeq a b)
  | .cond c a b => W.bind (opndW c) fun f => .mk (kCond f a b)
  | .block id c => .mk fun ih s => ob (ih (.code c s)) (blockR id)
  | .loop c => .mk fun ih s => ih (.loop c s)
  | c => .mk fun ih s => stepCode E ih s c
theorem codeW_eq (E : Env) (c : Code) : codeW E c = .mk fun ih s => stepCode E ih s c := by
  cases c <;> simp only [codeW, opndW_eq, W.bind_mk] <;> try rfl
  · rename_i ops draw
    cases draw with
    | false => rfl
    | true =>
      simp only [bc_true, planF_eq]
      cases hp : planOf E ops.toList with
      | none => simp only [oc_none]; congr 1; funext ih s; simp only [stepCode, bc_true, hp]; rfl
      | some pl => simp only [oc_some]; congr 1; funext ih s; simp only [stepCode, bc_true, hp]; rfl
  · congr 1
    funext ih s
    simp only [stepCode, kCond]
    congr 1
    funext v
    cases v <;> rfl

def tCode (c : Code) (s : St) (E : Env) (ih : IH) : Option Res := W.rec (motive := fun _ => Option Res) (fun f => f ih s) (codeW E c)
def tLoop (c : Code) (s : St) (_E : Env) (ih : IH) : Option Res := ob (ih (.code c s)) (loopR ih c)
def tOps (all rest : List Oper) (s : St) (E : Env) (ih : IH) : Option Res := opsF rest E ih all s
def tDops (all : List Oper) (pl : List PI) (s : St) (pd : List Rec) (E : Env) (ih : IH) : Option Res := dopsF pl E ih all pd s
def tCall (f : Nat) (args : List AV) (hp : Heap) (nx : Nat) (E : Env) (ih : IH) : Option Res := stepCall E ih f args hp nx
def tLeave (fn : Func) (tm : PT AV) (df : Df) (pan : Option AV) (hp : Heap) (nx : Nat) (E : Env) (ih : IH) : Option Res := stepLeave E ih fn tm pan hp nx df
def tRcode (c : Code) (s : St) (um : Option (AV × Bool)) (_E : Env) (ih : IH) : Option Res := stepRcode ih s um c
def tRops (all rest : List Oper) (s : St) (um : Option (AV × Bool)) (E : Env) (ih : IH) : Option Res := stepRops E ih all s um rest
def stepF (t : Task) : Env → IH → Option Res := Task.rec (motive := fun _ => Env → IH → Option Res) tCode tLoop tOps tDops tCall tLeave tRcode tRops t
theorem stepF_eq (E : Env) (ih : IH) (t : Task) : stepF t E ih = step E ih t := by
  cases t with
  | code c s => show W.rec (motive := fun _ => Option Res) (fun f => f ih s) (codeW E c) = _; rw [codeW_eq]; rfl
  | ops all rest s => exact opsF_eq E ih all s rest
  | dops all pl s pd => exact dopsF_eq E ih all pd s pl
  | _ => rfl

def runF (E : Env) : Nat → Task → Option Res :=
  Nat.rec (motive := fun _ => Task → Option Res) (fun _ => none) (fun _ ih t => stepF t E ih)
theorem runF_eq (E : Env) : ∀ (n : Nat) (t : Task), runF E n t = run E n t
  | 0, _ => rfl
  | n + 1, t => by
    show stepF t E (runF E n) = step E (run E n) t
    rw [show runF E n = run E n from funext fun t => runF_eq E n t]
    exact stepF_eq E _ t
end
end Go.Ev
