/- Soundness: what is to be shown of each task; operations in a row. -/
import Derived.Test.YtmplfbdnidlpoaaGreatDoorEvSound1
import Derived.Orders
namespace Go.Ev
noncomputable section
variable {K : KI}

/-- summaries of functions hold -/
def SumsOk (P : Program) (E : Env) (K : KI) : Prop :=
  ∀ f g, E.sum f = some g → ∀ B, Good K B → ∀ args hp r, g args hp B.nx = some r → HR B.ρ B.γ B.own hp B.w → ∀ args', VRs B.ρ B.γ args args' → Calls P f ⟨args'⟩ B.w (CallQ B r)

/-- the table of facts is right, in this world -/
def HOk (P : Program) (ρ : Nat → Value) (w : World) (H : Op → PT AV → Option AV) : Prop :=
  ∀ (γ : G) (nt : Nat) (tm : PT AV) (a : Act) (o : Oper) (v : AV), TmR ρ γ tm nt a → H o.op tm = some v → ∃ v', (execOp a.eval o).run P w = .ok (.value v') w ∧ VR ρ γ v v'
structure SumOk (P : Program) (E : Env) (K : KI) : Prop where
  sums : SumsOk P E K
  facts : ∀ ρ w, K ρ w → HOk P ρ w E.fact
theorem opH_ok {P : Program} {E : Env} (hE : EnvOk P E) (hS : SumOk P E K) {ρ : Nat → Value} {γ : G} {own : Nat → Prop} {hp : Heap} {w : World} (hK : K ρ w) (hR : HR ρ γ own hp w) {o : Oper} {tm : PT AV} {nt : Nat} {a : Act} (hT : TmR ρ γ tm nt a) {v : AV}
    (h : opH E o.op tm hp = some v) : ∃ v', (execOp a.eval o).run P w = .ok (.value v') w ∧ VR ρ γ v v' := by
  unfold opH at h
  cases hq : opQ E o.op tm hp with
  | some u =>
    rw [hq] at h
    injection h with h; subst h
    exact opQ_ok (P := P) hE hR hT hq
  | none =>
    rw [hq] at h
    exact hS.facts ρ w hK γ nt tm a o v hT h

/-- to be shown of a task that is no region of open order -/
def Ok0 (P : Program) (K : KI) (t : Task) (r : Res) : Prop :=
  match t with
  | .code c s => ∀ B, Good K B → ∀ γ a w, StR B γ s a w → c.wp P (CodeQ B r) a w
  | .loop c s => ∀ B, Good K B → ∀ γ a w, StR B γ s a w → (Code.loop c).wp P (CodeQ B r) a w
  | .ops all rest s => ∀ B, Good K B → ∀ γ a w, StR B γ s a w → ∀ (ops : Array Oper) (i : Nat), ops.toList = all → all.drop i = rest → wpOps P ops (CodeQ B r) (List.range' i rest.length) a w
  | .dops _ _ _ _ => True
  | .call f args hp nx => ∀ B, Good K B → B.nx = nx → HR B.ρ B.γ B.own hp B.w → ∀ args', VRs B.ρ B.γ args args' → Calls P f ⟨args'⟩ B.w (CallQ B r)
  | .leave fn tm df pan hp nx => ∀ B, Good K B → ∀ γ a w nt, StR B γ { tm := tm, nt := nt, df := df, hp := hp, nx := nx } a w → ∀ u, MdR B.ρ γ (pan.map fun v => (v, false)) u →
      Leaves P fn a.tmps (CallQ B r) a.defers u w
  | .rcode c s um => ∀ B, Good K B → ∀ γ a w, StR B γ s a w → ∀ c₀ cs, MdR B.ρ γ um c₀.mode → c.wpS P (RQ B r c₀ cs) a (c₀ :: cs) w
  | .rops all rest s um => ∀ B, Good K B → ∀ γ a w, StR B γ s a w → ∀ (ops : Array Oper) (i : Nat), ops.toList = all → all.drop i = rest → ∀ c₀ u cs, MdR B.ρ γ um u →
      wpOpsS P ops (RQ B r c₀ cs) (List.range' i rest.length) a ({ c₀ with mode := u } :: cs) w

section
variable {P : Program} {E : Env}

theorem drop_get {α : Type} {l : List α} {i : Nat} {x : α} {xs : List α} (h : l.drop i = x :: xs) : l[i]? = some x ∧ l.drop (i + 1) = xs := by
  constructor
  · have : (l.drop i)[0]? = some x := by rw [h]; rfl
    simpa using this
  · have : (l.drop i).drop 1 = xs := by rw [h]; rfl
    rw [List.drop_drop] at this
    exact this

/-- what an operation leaves, from the base -/
theorem Later.left {B : Base} {γ : G} {nx : Nat} {w : World} (h : Later B γ nx w) {v : AV} {hp' : Heap} {nx' : Nat} {γ' : G} {v' : Value} {w' : World} (l : Left B.ρ γ B.own w nx v hp' nx' γ' v' w') : Later B γ' nx' w' :=
  ⟨h.ext.trans l.ext, h.old.trans l.old h.le, Nat.le_trans h.le l.le, h.fr.trans l.fr⟩

/-- a state, after an operation's answer -/
theorem StR.after {B : Base} {γ : G} {s s' : St} {a : Act} {w : World} (h : StR B γ s a w) {v : AV} {hp' : Heap} {nx' : Nat} {γ' : G} {v' : Value} {w' : World} (l : Left B.ρ γ B.own w s.nx v hp' nx' γ' v' w')
    {d : Option Nat} (hp : putD { s with hp := hp', nx := nx' } d v = some s') : StR B γ' s' (a.put d v') w' := by
  have hT : TmR B.ρ γ' ({ s with hp := hp', nx := nx' } : St).tm ({ s with hp := hp', nx := nx' } : St).nt a := h.tm.ext l.ext
  obtain ⟨h1, h2, h3, h4⟩ := putD_ok hp hT l.val
  refine ⟨h1, ?_, ?_, ?_, ?_⟩
  · rw [h2, put_dfs]; exact h.df.ext l.ext
  · rw [h3]; exact l.heap
  · rw [h4]; exact l.fresh
  · rw [h4]; exact h.later.left l

/-- a state, after a value that leaves memory alone -/
theorem StR.quiet {B : Base} {γ : G} {s s' : St} {a : Act} {w : World} (h : StR B γ s a w) {v : AV} {v' : Value} (hv : VR B.ρ γ v v')
    {d : Option Nat} (hp : putD s d v = some s') : StR B γ s' (a.put d v') w := by
  refine h.after (v := v) (hp' := s.hp) (nx' := s.nx) (γ' := γ) (w' := w) ?_ hp
  exact Left.still hv h.hp (Fr.refl _ _) h.fresh

theorem StR.alloc {B : Base} (hB : Good K B) {γ : G} {s s' : St} {a : Act} {w : World} (h : StR B γ s a w) {v : AV} {obj : AObj} {v' : Value} {obj' : Obj} {N : Nat} (m : Made B.ρ γ w s.nx v obj v' obj' N)
    {d : Option Nat} (hp : putD { s with hp := s.hp.put s.nx obj, nx := Nat.add s.nx 1 } d v = some s') : ∃ γ', StR B γ' s' (a.put d v') (w.alloc obj') := by
  have hext := upd_ext h.fresh ⟨w.heap.size, 0, N⟩
  refine ⟨upd γ s.nx ⟨w.heap.size, 0, N⟩, h.after (γ' := upd γ s.nx ⟨w.heap.size, 0, N⟩) ⟨hext, m.val _ hext (upd_same _ _ _), ?_, upd_fresh h.fresh _, Nat.le_succ _, Fr.alloc _ _, Old.upd _ _ _⟩ hp⟩
  exact h.hp.alloc h.fresh (h.up hB) (m.obj _ hext (upd_same _ _ _))

/-- the base of a call -/
def Base.at (B : Base) (γ : G) (nx : Nat) (w : World) : Base := { B with γ := γ, nx := nx, w := w }
theorem StR.good {B : Base} (hB : Good K B) {γ : G} {s : St} {a : Act} {w : World} (h : StR B γ s a w) : Good K (B.at γ s.nx w) := ⟨h.fresh, h.up hB, fun w' hw => hB.inv w' (h.later.fr.trans hw)⟩
theorem Later.at {B : Base} {γ γ' : G} {nx nx' : Nat} {w w' : World} (h : Later B γ nx w) (k : Later (B.at γ nx w) γ' nx' w') : Later B γ' nx' w' :=
  ⟨h.ext.trans k.ext, h.old.trans k.old h.le, Nat.le_trans h.le k.le, h.fr.trans k.fr⟩

/-- operations in a row: one that is done -/
theorem ops_cons {ops : Array Oper} {Q : Exit → Act → World → Prop} {i n : Nat} {o : Oper} {a : Act} {w : World} (ho : ops[i]? = some o) (hw : Region.wanted o (yielded ops a.tmps) = true)
    (h : o.wp P a w (wpOps P ops Q (List.range' (i + 1) n)) Q) : wpOps P ops Q (List.range' i (n + 1)) a w := by
  simp only [List.range'_succ, wpOps, ho, hw, if_true]
  exact .inl h
theorem ops_skip {ops : Array Oper} {Q : Exit → Act → World → Prop} {i n : Nat} {o : Oper} {a : Act} {w : World} (ho : ops[i]? = some o) (hw : Region.wanted o (yielded ops a.tmps) = false)
    (h : wpOps P ops Q (List.range' (i + 1) n) (a.put o.dst undef) w) : wpOps P ops Q (List.range' i (n + 1)) a w := by
  simp only [List.range'_succ, wpOps, ho, hw, Bool.false_eq_true, if_false]
  exact h

theorem stepOps_ok (hE : EnvOk P E) (hSum : SumOk P E K) {ih : Task → Option Res} (hih : ∀ t r, ih t = some r → Ok0 P K t r) {all rest : List Oper} {s : St} {r : Res} (h : stepOps E ih all s rest = some r) :
    Ok0 P K (.ops all rest s) r := by
  intro B hB γ a w hS ops i hall hrest
  cases rest with
  | nil =>
    simp only [stepOps] at h
    injection h with h; subst h
    simp only [List.length_nil, List.range'_zero, wpOps]
    exact ⟨.normal, s, γ, rfl, hS, trivial⟩
  | cons o os =>
    obtain ⟨hg, hdrop⟩ := drop_get hrest
    subst hall
    have ho : ops[i]? = some o := by simpa using hg
    simp only [stepOps, ob_some] at h
    obtain ⟨b, hb, h⟩ := h
    have hw := wanted_ok hS.tm hb
    rw [List.length_cons]
    have next : ∀ {s' : St} {γ' : G} {a' : Act} {w' : World}, ih (.ops ops.toList os s') = some r → StR B γ' s' a' w' → wpOps P ops (CodeQ B r) (List.range' (i + 1) os.length) a' w' :=
      fun h1 h2 => hih _ _ h1 B hB _ _ _ h2 ops (i + 1) rfl hdrop
    cases b with
    | false =>
      simp only [bc_false, ob_some] at h
      obtain ⟨s', hp, h⟩ := h
      exact ops_skip ho hw (next h (hS.quiet tup0 hp))
    | true =>
      refine ops_cons ho hw ?_
      simp only [bc_true] at h
      cases hk : kindOf E o.op <;> rw [hk] at h <;> simp only [ob_some] at h
      · obtain ⟨v, hv, s', hp, h⟩ := h
        obtain ⟨v', h1, h2⟩ := opH_ok hE hSum (hB.inv w hS.later.fr) hS.hp hS.tm hv
        simp only [Oper.wp, h1, Oper.upon]
        exact next h (hS.quiet h2 hp)
      · obtain ⟨⟨v, obj⟩, hv, s', hp, h⟩ := h
        obtain ⟨v', obj', N, h1, h2⟩ := opB_ok (P := P) (w := w) hE hS.tm hv
        simp only [Oper.wp, h1, Oper.upon]
        obtain ⟨γ', hS'⟩ := hS.alloc hB h2 hp
        exact next h hS'
      · obtain ⟨q, hq, h⟩ := h
        have hor := opC_ok (P := P) hE hS.hp hS.fresh (hS.up hB) hS.tm rfl rfl hq
        simp only [Oper.wp]
        cases q with
        | val v hp nx =>
          simp only [stepOp, ob_some] at h
          obtain ⟨s', hp, h⟩ := h
          obtain ⟨v', w', γ', hr, l⟩ := hor
          rcases hr with hr | ⟨hr, rfl⟩
          · simp only [hr, Oper.upon]; exact next h (hS.after l hp)
          · simp only [hr, Oper.upon]; exact next h (hS.after l hp)
        | enter f args =>
          obtain ⟨args', hr, ha⟩ := hor
          simp only [stepOp, ob_some] at h
          obtain ⟨r', hr', h⟩ := h
          have hc := hih _ _ hr' (B.at γ s.nx w) (hS.good hB) rfl hS.hp args' ha
          simp only [hr, Oper.upon]
          refine hc.mono fun e w' he => ?_
          cases e with
          | outgrown => exact he.elim
          | returned v' =>
            obtain ⟨v, hp, nx, γ', rfl, h1, h2, h3, h4⟩ := he
            simp only [ob_some] at h
            obtain ⟨s', hp, h⟩ := h
            refine next h (hS.after (γ' := γ') (w' := w') ⟨h4.ext, h1, h2, h3, h4.le, h4.fr, h4.old⟩ hp)
          | panicked ch =>
            obtain ⟨v, hp, nx, γ', rfl, ⟨v', rfl, h1⟩, h2, h3, h4⟩ := he
            simp only at h
            injection h with h; subst h
            exact ⟨_, _, γ', rfl, ⟨hS.tm.ext h4.ext, hS.df.ext h4.ext, h2, h3, hS.later.at h4⟩, v', rfl, h1⟩
        | defer f args =>
          obtain ⟨d, hr, hd⟩ := hor
          simp only [stepOp, ob_some] at h
          obtain ⟨s', hp, h⟩ := h
          simp only [hr, Oper.upon]
          have hS2 : StR B γ { s with df := (f, args) :: s.df } { a with defers := d :: a.defers } w := ⟨⟨hS.tm.size, hS.tm.get⟩, .cons hd hS.df, hS.hp, hS.fresh, hS.later⟩
          exact next h (hS2.quiet tup0 hp)
        | recover => simp [stepOp] at h
        | pan v =>
          obtain ⟨v', hr, hv⟩ := hor
          simp only [stepOp] at h
          injection h with h; subst h
          simp only [hr, Oper.upon]
          exact ⟨_, _, γ, rfl, hS, v', rfl, hv⟩
end
end
end Go.Ev
