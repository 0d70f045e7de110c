/- Soundness: relations of states, of endings; slots, guards, results. -/
import Derived.Test.YtmplfbdnidlpoaaGreatDoorEvOps9
import Derived.Defers
import Derived.Recover
namespace Go.Ev
noncomputable section

structure Base where
  ρ : Nat → Value
  γ : G
  own : Nat → Prop
  nx : Nat
  w : World

/-- what holds of the values that are not known, in every later world -/
abbrev KI := (Nat → Value) → World → Prop

structure Good (K : KI) (B : Base) : Prop where
  fresh : Fresh B.γ B.nx
  up : Up B.own B.w
  inv : ∀ w', Fr B.own B.w w' → K B.ρ w'

/-- what has come of the base -/
structure Later (B : Base) (γ : G) (nx : Nat) (w : World) : Prop where
  ext : Ext B.γ γ
  old : Old B.γ γ B.nx
  le : B.nx ≤ nx
  fr : Fr B.own B.w w

theorem Later.refl (B : Base) : Later B B.γ B.nx B.w := ⟨Ext.refl _, Old.refl _ _, Nat.le_refl _, Fr.refl _ _⟩

inductive DfRs (ρ : Nat → Value) (γ : G) : List (AV × List AV) → List Deferred → Prop
  | nil : DfRs ρ γ [] []
  | cons {p : AV × List AV} {d : Deferred} {ps : List (AV × List AV)} {ds : List Deferred} : DfR ρ γ p d → DfRs ρ γ ps ds → DfRs ρ γ (p :: ps) (d :: ds)
theorem DfRs.ext {ρ : Nat → Value} {γ γ' : G} (e : Ext γ γ') {ps : List (AV × List AV)} {ds : List Deferred} (h : DfRs ρ γ ps ds) : DfRs ρ γ' ps ds := by
  induction h with
  | nil => exact .nil
  | cons h _ ih => exact .cons (h.ext e) ih

theorem TmR.ext {ρ : Nat → Value} {γ γ' : G} {tm : PT AV} {nt : Nat} {a : Act} (e : Ext γ γ') (h : TmR ρ γ tm nt a) : TmR ρ γ' tm nt a :=
  ⟨h.size, fun t v hv => let ⟨v', h1, h2⟩ := h.get t v hv; ⟨v', h1, h2.ext e⟩⟩

structure StR (B : Base) (γ : G) (s : St) (a : Act) (w : World) : Prop where
  tm : TmR B.ρ γ s.tm s.nt a
  df : DfRs B.ρ γ s.df a.defers
  hp : HR B.ρ γ B.own s.hp w
  fresh : Fresh γ s.nx
  later : Later B γ s.nx w

theorem StR.up {K : KI} {B : Base} (hB : Good K B) {γ : G} {s : St} {a : Act} {w : World} (h : StR B γ s a w) : Up B.own w := hB.up.fr h.later.fr

def ExR (ρ : Nat → Value) (γ : G) : AExit → Exit → Prop
  | .normal, .normal => True
  | .exit i, .exit j => i = j
  | .ret, .ret => True
  | .panic v, .panic ch => ∃ v', ch = [{ v := v', recovered := false }] ∧ VR ρ γ v v'
  | _, _ => False

def CodeQ (B : Base) (r : Res) (e : Exit) (a : Act) (w : World) : Prop := ∃ ae s γ, r = .code ae s ∧ StR B γ s a w ∧ ExR B.ρ γ ae e

def CallQ (B : Base) (r : Res) : Ending → World → Prop
  | .returned v', w => ∃ v hp nx γ, r = .ret v hp nx ∧ VR B.ρ γ v v' ∧ HR B.ρ γ B.own hp w ∧ Fresh γ nx ∧ Later B γ nx w
  | .panicked ch, w => ∃ v hp nx γ, r = .pan v hp nx ∧ (∃ v', ch = [{ v := v', recovered := false }] ∧ VR B.ρ γ v v') ∧ HR B.ρ γ B.own hp w ∧ Fresh γ nx ∧ Later B γ nx w
  | .outgrown, _ => False

/-- a frame that leaves: does it panic? -/
def MdR (ρ : Nat → Value) (γ : G) : Option (AV × Bool) → FrameMode → Prop
  | none, u => u = .returning
  | some (v, b), u => ∃ v', u = .panicking [{ v := v', recovered := b }] ∧ VR ρ γ v v'
theorem MdR.ext {ρ : Nat → Value} {γ γ' : G} (e : Ext γ γ') {um : Option (AV × Bool)} {u : FrameMode} (h : MdR ρ γ um u) : MdR ρ γ' um u := by
  cases um with
  | none => exact h
  | some p => obtain ⟨v', h1, h2⟩ := h; exact ⟨v', h1, h2.ext e⟩

def RQ (B : Base) (r : Res) (c₀ : Frame) (cs : List Frame) (e : Exit) (a : Act) (cs' : List Frame) (w : World) : Prop :=
  ∃ ae s um γ, r = .dfr ae s um ∧ StR B γ s a w ∧ ExR B.ρ γ ae e ∧ ∃ u', cs' = { c₀ with mode := u' } :: cs ∧ MdR B.ρ γ um u'

section
variable {ρ : Nat → Value} {γ : G} {P : Program} {E : Env} {w : World} {own : Nat → Prop} {hp : Heap} {nx : Nat}

theorem put_size (a : Act) (d : Option Tmp) (v : Value) : (a.put d v).tmps.size = a.tmps.size := by
  cases d <;> simp [Act.put]
theorem put_dfs (a : Act) (d : Option Tmp) (v : Value) : (a.put d v).defers = a.defers := by
  cases d <;> rfl
theorem put_other (a : Act) {d : Option Tmp} (v : Value) {t : Nat} (h : d ≠ some t) : (a.put d v).tmps[t]? = a.tmps[t]? := by
  cases d with
  | none => rfl
  | some d =>
    simp only [Act.put]
    rw [Array.getElem?_setIfInBounds_ne]
    intro hh; subst hh; exact h rfl

/-- a slot is written -/
theorem putD_ok {s s' : St} {d : Option Nat} {v : AV} {v' : Value} {a : Act} (h : putD s d v = some s') (hT : TmR ρ γ s.tm s.nt a) (hv : VR ρ γ v v') :
    TmR ρ γ s'.tm s'.nt (a.put d v') ∧ s'.df = s.df ∧ s'.hp = s.hp ∧ s'.nx = s.nx := by
  cases d with
  | none => simp [putD] at h; subst h; exact ⟨hT, rfl, rfl, rfl⟩
  | some d =>
    simp only [putD, og_some] at h
    obtain ⟨hle, h⟩ := h
    injection h with h; subst h
    have hle := ble_iff.1 hle
    simp only [Nat.add_eq] at hle
    refine ⟨⟨by simp [put_size, hT.size], fun t u hu => ?_⟩, rfl, rfl, rfl⟩
    rw [PT.get_put] at hu
    split at hu
    · rename_i hdt; subst hdt
      injection hu with hu; subst hu
      have hsz := hT.size
      have hlt : d < a.tmps.size := by omega
      exact ⟨v', by simp [Act.put, hlt], hv⟩
    · rename_i hdt
      obtain ⟨u', h1, h2⟩ := hT.get t u hu
      exact ⟨u', by rw [put_other _ _ (by simpa using hdt)]; exact h1, h2⟩

theorem wanted_ok {ops : Array Oper} {tm : PT AV} {nt : Nat} {a : Act} (hT : TmR ρ γ tm nt a) {o : Oper} {b : Bool} (h : wantedA ops.toList tm o = some b) :
    Region.wanted o (yielded ops a.tmps) = b := by
  unfold wantedA at h
  unfold Region.wanted
  cases hg : o.guard with
  | none => rw [hg] at h; simp at h; subst h; rfl
  | some p =>
    obtain ⟨j, want⟩ := p
    rw [hg] at h
    simp only [wantedG, ob_some, nth_eq] at h ⊢
    obtain ⟨oj, hj, d, hd, v, hv, h⟩ := h
    have hj : ops[j]? = some oj := by simpa using hj
    obtain ⟨v', h1, h2⟩ := hT.get d v hv
    have hy : yielded ops a.tmps j = (match v' with | .bool b => some b | _ => none) := by
      simp only [yielded, hj, Option.bind_some, hd, h1]
      cases v' <;> rfl
    rw [hy]
    cases v <;> try (simp at h; done)
    case bool c =>
      cases h2
      simp at h; subst h
      cases c <;> cases want <;> rfl
    case tup vs =>
      cases vs with
      | nil => cases h2; simp at h; subst h; rfl
      | cons _ _ => simp at h

theorem resultsA_ok (hE : EnvOk P E) (hR : HR ρ γ own hp w) {tm : PT AV} {nt : Nat} {a : Act} (hT : TmR ρ γ tm nt a) : ∀ (rs : List ResultVar) (vs : List AV), resultsA E tm hp rs = some vs →
    ∃ vs', VRs ρ γ vs vs' ∧ ∃ f : ResultVar → Sem Value, (∀ r, f r = (match r with | .tmp t => pure (a.tmps.getD t undef) | .cell x t => do loadVar t (← asAddr (a.tmps.getD x undef)))) ∧ (rs.mapM f).run P w = .ok vs' w
  | [], vs, h => by simp [resultsA] at h; subst h; exact ⟨[], .nil, _, fun _ => rfl, by simp⟩
  | .tmp t :: rs, vs, h => by
    simp only [resultsA, ob_some] at h
    obtain ⟨v, hv, us, hus, he⟩ := h
    injection he with he; subst he
    obtain ⟨v', h1, h2⟩ := hT.get t v hv
    obtain ⟨us', k1, f, k2, k3⟩ := resultsA_ok hE hR hT rs us hus
    refine ⟨v' :: us', .cons _ _ _ _ h2 k1, f, k2, ?_⟩
    rw [List.mapM_cons, Sem.run_bind, k2]
    simp [Array.getD_eq_getD_getElem?, h1, k3]
  | .cell x t :: rs, vs, h => by
    simp only [resultsA, ob_some] at h
    obtain ⟨p, hp1, v, hv, us, hus, he⟩ := h
    injection he with he; subst he
    obtain ⟨p', h1, h2⟩ := hT.get x p hp1
    obtain ⟨us', k1, f, k2, k3⟩ := resultsA_ok hE hR hT rs us hus
    obtain ⟨v', l1, l2⟩ := load_ok (P := P) hE hR hv h2
    refine ⟨v' :: us', .cons _ _ _ _ l2 k1, f, k2, ?_⟩
    rw [List.mapM_cons, Sem.run_bind, k2]
    have hl : (do loadVar t (← asAddr p') : Sem Value).run P w = .ok v' w := by
      simp only [loadA, ob_some, AV.ptr?_some] at hv
      obtain ⟨⟨b, off⟩, rfl, _⟩ := hv
      cases h2
      simpa [Instr.loadAt, Instr.sureAddr, asAddr] using l1
    simp only [Array.getD_eq_getD_getElem?, h1, Option.getD_some, hl, Result.andThen_ok, Sem.run_bind, k3, Sem.run_pure]

theorem results_ok (hE : EnvOk P E) (hR : HR ρ γ own hp w) {tm : PT AV} {nt : Nat} {a : Act} (hT : TmR ρ γ tm nt a) {fn : Func} {vs : List AV} (h : resultsA E tm hp fn.results.toList = some vs) :
    ∃ v', (results fn a.tmps).run P w = .ok v' w ∧ VR ρ γ (packA vs) v' := by
  obtain ⟨vs', h1, f, h2, h3⟩ := resultsA_ok hE hR hT _ _ h
  have hm : (fn.results.mapM f).run P w = .ok ⟨vs'⟩ w := by
    rw [← Array.toArray_toList (xs := fn.results), List.mapM_toArray]
    simp [h3]
  have hf : f = fun r => (match r with | .tmp t => pure (a.tmps.getD t undef) | .cell x t => do loadVar t (← asAddr (a.tmps.getD x undef))) := funext h2
  have hm' : (results fn a.tmps).run P w = .ok (if h : (⟨vs'⟩ : Array Value).size = 1 then (⟨vs'⟩ : Array Value)[0] else .tuple ⟨vs'⟩) w := by
    simp only [results, Sem.run_bind]
    rw [hf] at hm
    exact (congrArg (fun x => Result.andThen x _) hm).trans (by simp)
  refine ⟨_, hm', ?_⟩
  cases h1 with
  | nil => simpa [packA] using VR.tup _ _ .nil
  | cons x x' xs xs' k1 k2 =>
    cases k2 with
    | nil => simpa [packA] using k1
    | cons y y' ys ys' k3 k4 => simpa [packA] using VR.tup _ _ (.cons _ _ _ _ k1 (.cons _ _ _ _ k3 k4))

theorem TmR.args {args : List AV} {args' : List Value} (h : VRs ρ γ args args') {n : Nat} (hn : args.length ≤ n) :
    TmR ρ γ (rowOf args) n { tmps := (⟨args'⟩ : Array Value) ++ Array.replicate (n - (⟨args'⟩ : Array Value).size) undef, defers := [] } := by
  have hl := h.length
  refine ⟨by simp; omega, fun t v hv => ?_⟩
  rw [get_rowOf] at hv
  obtain ⟨v', h1, h2⟩ := h.get t v hv
  have ht : t < args'.length := by
    rcases Nat.lt_or_ge t args'.length with h | h
    · exact h
    · rw [List.getElem?_eq_none h] at h1; simp at h1
  refine ⟨v', ?_, h2⟩
  rw [Array.getElem?_append_left (by simpa using ht)]
  simpa using h1
end
end
end Go.Ev
