/- An environment's tables: what is to be checked of them. -/
import Derived.Test.YtmnfaoodanikcaaGreatEvDraw4
namespace Go.Ev
noncomputable section

/-- of every entry of a trie, whose keys are read as 'a * j + b' -/
def All {α : Type} (p : Nat → α → Prop) (a b : Nat) (t : PT α) : Prop := ∀ j v, t.get j = some v → p (a * j + b) v

theorem All.nil {α : Type} {p : Nat → α → Prop} {a b : Nat} : All p a b PT.nil := by intro j v h; simp at h
theorem All.node {α : Type} {p : Nat → α → Prop} {a b : Nat} {l r : PT α} {x : Option α} (h0 : ∀ v, x = some v → p b v) (hl : All p (2 * a) (a + b) l) (hr : All p (2 * a) (2 * a + b) r) :
    All p a b (PT.node l x r) := by
  intro j v h
  rw [PT.get_node] at h
  split at h
  · rename_i hj; subst hj; simpa using h0 v h
  · split at h
    · rename_i hj hj1
      have := hl _ v h
      rwa [show 2 * a * (j / 2) + (a + b) = a * j + b by
        have : j = 2 * (j / 2) + 1 := by omega
        generalize j / 2 = q at this
        subst this
        rw [Nat.mul_add, Nat.mul_one, Nat.mul_comm 2 a, Nat.mul_assoc]; omega] at this
    · rename_i hj hj1
      have := hr _ v h
      rwa [show 2 * a * (j / 2 - 1) + (2 * a + b) = a * j + b by
        have : j = 2 * (j / 2 - 1) + 2 := by omega
        generalize j / 2 - 1 = q at this
        subst this
        rw [Nat.mul_add, Nat.mul_comm 2 a, Nat.mul_assoc]; omega] at this

def allB {α : Type} (p : Nat → α → Bool) : PT α → Nat → Nat → Bool
  | .nil, _, _ => true
  | .node l v r, a, b => (match v with | some x => p b x | none => true) && (allB p l (2 * a) (a + b) && allB p r (2 * a) (2 * a + b))

theorem allB_ok {α : Type} {p : Nat → α → Bool} : ∀ {t : PT α} {a b : Nat}, allB p t a b = true → All (fun k v => p k v = true) a b t
  | .nil, _, _, _ => All.nil
  | .node l v r, a, b, h => by
    simp only [allB, Bool.and_eq_true] at h
    refine All.node (fun x hx => ?_) (allB_ok h.2.1) (allB_ok h.2.2)
    subst hx; exact h.1

def fieldsB : List Field → List (Nat × Nat × Bool) → Bool
  | [], [] => true
  | f :: fs, g :: gs => Nat.beq f.offset g.1 && (Nat.beq f.type g.2.1 && ((decide (f.name ≠ "_") == g.2.2) && fieldsB fs gs))
  | _, _ => false

def descB : TypeDesc → TyD → Bool
  | .bool, .bool => true
  | .string, .string => true
  | .int k, .int k' => eqKind k k'
  | .pointer e, .pointer e' => Nat.beq e e'
  | .slice e, .slice e' => Nat.beq e e'
  | .array n e, .array n' e' => Nat.beq n n' && Nat.beq e e'
  | .map k e, .map k' e' => Nat.beq k k' && Nat.beq e e'
  | .struct fs, .struct fs' => fieldsB fs.toList fs'
  | .interface _, .iface => true
  | .func _ _ _, .func => true
  | .tuple _, .tuple => true
  | .float _, .other => true
  | .complex _, .other => true
  | .chan _ _, .other => true
  | .unsafePointer, .other => true
  | .invalid, .other => true
  | _, _ => false

theorem fieldsB_ok : ∀ {fs : List Field} {gs : List (Nat × Nat × Bool)}, fieldsB fs gs = true → gs = fs.map fun f => (f.offset, f.type, decide (f.name ≠ "_"))
  | [], [], _ => rfl
  | [], _ :: _, h => by simp [fieldsB] at h
  | _ :: _, [], h => by simp [fieldsB] at h
  | f :: fs, (a, b, c) :: gs, h => by
    simp only [fieldsB, Bool.and_eq_true] at h
    obtain ⟨h1, h2, h3, h4⟩ := h
    rw [List.map_cons, ← fieldsB_ok h4, ← beq_iff.1 h1, ← beq_iff.1 h2, ← (beq_iff_eq.1 h3)]

theorem descB_ok {d : TypeDesc} {t : TyD} (h : descB d t = true) : DOk d t := by
  cases d <;> cases t <;> simp only [descB, Bool.and_eq_true, beq_iff, eqKind_eq, decide_eq_true_eq, DOk] at h ⊢ <;> first | exact h | trivial | (exact fieldsB_ok h) | simp at h

def oneNotAgg (v : Value) : Bool := match v with
  | .agg _ => false
  | .tuple _ => false
  | _ => true
def isAggV (v : Value) : Bool := match v with
  | .agg _ => true
  | _ => false

def zeroB (ti : TyI) (v : Option Value) : Bool :=
  match ti.zero with
  | none => true
  | some z => match v with
    | none => false
    | some v => (match ofValues v.cells.toList with
      | some z' => sameAVs z z'
      | none => false) && (if ti.agg then isAggV v else oneNotAgg v)

def tyCheck (P : Program) (t : Nat) (ti : TyI) : Bool :=
  (match P.info? t with
   | some i => Nat.beq i.size ti.size && (Nat.beq i.bytes ti.bytes && zeroB ti i.zero)
   | none => false) &&
  ((match P.underlying t with
    | some d => descB d ti.d
    | none => false) &&
   ((ti.agg == ti.d.isAgg) && (!ti.eqs || (!P.eqGuardType P.depth t && !P.stoodInHeld t))))

theorem tyCheck_ok {P : Program} {t : Nat} {ti : TyI} (h : tyCheck P t ti = true) : TyOk P t ti := by
  simp only [tyCheck, Bool.and_eq_true] at h
  obtain ⟨h1, h2, h3, h4⟩ := h
  refine ⟨?_, ?_, beq_iff_eq.1 h3, fun he => ?_⟩
  · split at h1
    · rename_i i hi
      simp only [Bool.and_eq_true] at h1
      obtain ⟨k1, k2, k3⟩ := h1
      refine ⟨i, hi, beq_iff.1 k1, beq_iff.1 k2, fun z hz => ?_⟩
      simp only [zeroB, hz] at k3
      split at k3
      · simp at k3
      · rename_i v hv
        simp only [Bool.and_eq_true] at k3
        obtain ⟨l1, l2⟩ := k3
        split at l1
        · rename_i z' hz'
          refine ⟨v, hv, by rw [sameAVs_eq l1]; exact hz', fun ha => ?_, fun ha => ?_⟩
          · rw [if_pos ha] at l2
            cases v <;> simp [isAggV] at l2
            exact ⟨_, rfl⟩
          · rw [if_neg (by simp [ha])] at l2
            cases v <;> simp [oneNotAgg] at l2 <;> rfl
        · simp at l1
    · simp at h1
  · split at h2
    · rename_i d hd; exact ⟨d, hd, descB_ok h2⟩
    · simp at h2
  · simp [he] at h4; exact h4

def fieldsIn (tys : PT TyI) (_ : Nat) (ti : TyI) : Bool :=
  match ti.d with
  | .struct fs => fs.all fun fd => (tys.get fd.2.1).isSome
  | _ => true

theorem envOk {P : Program} {E : Env} (hf : All (fun f fn => P.funcs[f]? = some fn ∧ ∀ args w, (callFunc f args).run P w = .ok (.enter f args) w) 1 0 E.fns)
    (ht : allB (tyCheck P) E.tys 1 0 = true) (hx : ∀ f k, E.ext.get f = some k → ∀ (ρ : Nat → Value) (γ : G) args v args' w, extA k args = some v → VRs ρ γ args args' →
    ∃ v', (callFunc f ⟨args'⟩).run P w = .ok (.value v') w ∧ VR ρ γ v v') (hm : P.follows .mixedOrders = true) (hfd : allB (fieldsIn E.tys) E.tys 1 0 = true) : EnvOk P E := by
  refine ⟨fun f fn h => by simpa using hf f fn h, fun t ti h => tyCheck_ok (by simpa using allB_ok ht t ti h), hx, hm, fun t ti fs h hd fd hmem => ?_⟩
  have := allB_ok hfd t ti h
  simp only [fieldsIn, hd, List.all_eq_true] at this
  exact Option.isSome_iff_exists.1 (this fd hmem)
end
end Go.Ev
