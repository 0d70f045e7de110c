/- An environment's tables: what is to be checked of them. -/
import Derived.Test.YtmplfbdnidlpoaaGreatDoorEvDraw4
namespace Go.Ev
noncomputable section

/-! of every entry of a table, whose keys are read as 'a * k + b' -/
section
variable {α β : Type}
def A0 (p : Nat → α → Prop) (_ b : Nat) (x : Option α) : Prop := ∀ v, x = some v → p b v
def AU (A : Nat → Nat → β → Prop) (a b : Nat) (r : N4 β) : Prop := ∀ i, i < 16 → A (16 * a) (i * a + b) (N4.sel i r)
def Tells (n : Nat) (p : Nat → α → Prop) (g : β → Nat → Option α) (A : Nat → Nat → β → Prop) : Prop := ∀ a b r k v, k < n → A a b r → g r k = some v → p (a * k + b) v
theorem tells0 {p : Nat → α → Prop} : Tells 1 p PT.g0 (A0 p) := by
  intro a b r k v hk h hg
  have : k = 0 := by omega
  subst this
  simpa using h v hg
theorem Tells.up {n : Nat} {p : Nat → α → Prop} {g : β → Nat → Option α} {A : Nat → Nat → β → Prop} (h : Tells n p g A) : Tells (16 * n) p (PT.G g) (AU A) := by
  intro a b r k v hk hA hg
  have hkd : Nat.div k 16 < n := by show k / 16 < n; omega
  have hm : Nat.mod k 16 < 16 := Nat.mod_lt _ (by omega)
  have := h _ _ _ _ _ hkd (hA _ hm) hg
  have e : 16 * a * Nat.div k 16 + (Nat.mod k 16 * a + b) = a * k + b := by
    show 16 * a * (k / 16) + (k % 16 * a + b) = a * k + b
    have h2 : k = 16 * (k / 16) + k % 16 := by omega
    generalize k / 16 = q at h2
    generalize k % 16 = r at h2
    subst h2
    rw [Nat.mul_add, ← Nat.mul_assoc, Nat.mul_comm a 16, Nat.mul_comm a r]; omega
  rwa [e] at this

abbrev A1 (p : Nat → α → Prop) := AU (A0 p)
abbrev A2 (p : Nat → α → Prop) := AU (A1 p)
abbrev A3 (p : Nat → α → Prop) := AU (A2 p)
abbrev A4 (p : Nat → α → Prop) := AU (A3 p)
def All (p : Nat → α → Prop) (t : PT α) : Prop := ∀ k v, t.get k = some v → p k v
theorem All.of {p : Nat → α → Prop} {a : T1 α} {b : T2 α} {c : T4 α} (ha : A1 p 1 0 a) (hb : A2 p 1 0 b) (hc : A4 p 1 0 c) : All p (.mk a b c .nil) := by
  intro k v hk
  rw [PT.get_eq] at hk
  unfold PT.getS at hk
  simp only at hk
  split at hk
  · rename_i h; have := (tells0 (p := p)).up 1 0 a k v h ha hk; simpa using this
  · split at hk
    · rename_i h; have := (tells0 (p := p)).up.up 1 0 b k v h hb hk; simpa using this
    · split at hk
      · rename_i h; have := (tells0 (p := p)).up.up.up.up 1 0 c k v h hc hk; simpa using this
      · cases hk
theorem AU.all {A : Nat → Nat → β → Prop} {x : β} (h : ∀ a b, A a b x) (a b : Nat) : AU A a b (.all x) := fun i hi => by rw [N4.sel_all]; exact h _ _
theorem AU.mk {A : Nat → Nat → β → Prop} {a b : Nat} {x0 x1 x2 x3 x4 x5 x6 x7 x8 x9 x10 x11 x12 x13 x14 x15 : β} (h0 : A (16 * a) (0 * a + b) x0) (h1 : A (16 * a) (1 * a + b) x1) (h2 : A (16 * a) (2 * a + b) x2) (h3 : A (16 * a) (3 * a + b) x3) (h4 : A (16 * a) (4 * a + b) x4) (h5 : A (16 * a) (5 * a + b) x5) (h6 : A (16 * a) (6 * a + b) x6) (h7 : A (16 * a) (7 * a + b) x7) (h8 : A (16 * a) (8 * a + b) x8) (h9 : A (16 * a) (9 * a + b) x9) (h10 : A (16 * a) (10 * a + b) x10) (h11 : A (16 * a) (11 * a + b) x11) (h12 : A (16 * a) (12 * a + b) x12) (h13 : A (16 * a) (13 * a + b) x13) (h14 : A (16 * a) (14 * a + b) x14) (h15 : A (16 * a) (15 * a + b) x15) : AU A a b (.mk x0 x1 x2 x3 x4 x5 x6 x7 x8 x9 x10 x11 x12 x13 x14 x15) := by
  intro i hi
  rcases N4.lt16 hi with rfl | rfl | rfl | rfl | rfl | rfl | rfl | rfl | rfl | rfl | rfl | rfl | rfl | rfl | rfl | rfl
  · exact h0
  · exact h1
  · exact h2
  · exact h3
  · exact h4
  · exact h5
  · exact h6
  · exact h7
  · exact h8
  · exact h9
  · exact h10
  · exact h11
  · exact h12
  · exact h13
  · exact h14
  · exact h15
theorem a0 {p : Nat → α → Prop} {a b : Nat} : A0 p a b none := by intro v h; cases h
theorem a0s {p : Nat → α → Prop} {a b : Nat} {x : α} (h : p b x) : A0 p a b (some x) := by rintro v ⟨rfl⟩; exact h
theorem ae1 {p : Nat → α → Prop} {a b : Nat} : A1 p a b PT.e1 := AU.all (fun _ _ => a0) a b
theorem ae2 {p : Nat → α → Prop} {a b : Nat} : A2 p a b PT.e2 := AU.all (fun _ _ => ae1) a b
theorem ae3 {p : Nat → α → Prop} {a b : Nat} : A3 p a b PT.e3 := AU.all (fun _ _ => ae2) a b
theorem ae4 {p : Nat → α → Prop} {a b : Nat} : A4 p a b PT.e4 := AU.all (fun _ _ => ae3) a b
/-- one value, below all -/
def one1 (x : α) : T1 α := .mk (some x) none none none none none none none none none none none none none none none
theorem aone1 {p : Nat → α → Prop} {a b : Nat} {x : α} (h : p (0 * a + b) x) : A1 p a b (one1 x) := AU.mk (a0s h) a0 a0 a0 a0 a0 a0 a0 a0 a0 a0 a0 a0 a0 a0 a0
def three2 (x y z : T1 α) : T2 α := .mk PT.e1 x y z PT.e1 PT.e1 PT.e1 PT.e1 PT.e1 PT.e1 PT.e1 PT.e1 PT.e1 PT.e1 PT.e1 PT.e1
theorem athree2 {p : Nat → α → Prop} {a b : Nat} {x y z : T1 α} (hx : A1 p (16 * a) (1 * a + b) x) (hy : A1 p (16 * a) (2 * a + b) y) (hz : A1 p (16 * a) (3 * a + b) z) : A2 p a b (three2 x y z) := AU.mk ae1 hx hy hz ae1 ae1 ae1 ae1 ae1 ae1 ae1 ae1 ae1 ae1 ae1 ae1

def B0 (q : Nat → α → Bool) (_ b : Nat) (x : Option α) : Bool := oc true (q b) x
def BU (f : Nat → Nat → β → Bool) (a b : Nat) (r : N4 β) : Bool := f (16 * a) (0 * a + b) (N4.s0 r) && (f (16 * a) (1 * a + b) (N4.s1 r) && (f (16 * a) (2 * a + b) (N4.s2 r) && (f (16 * a) (3 * a + b) (N4.s3 r) && (f (16 * a) (4 * a + b) (N4.s4 r) && (f (16 * a) (5 * a + b) (N4.s5 r) && (f (16 * a) (6 * a + b) (N4.s6 r) && (f (16 * a) (7 * a + b) (N4.s7 r) && (f (16 * a) (8 * a + b) (N4.s8 r) && (f (16 * a) (9 * a + b) (N4.s9 r) && (f (16 * a) (10 * a + b) (N4.s10 r) && (f (16 * a) (11 * a + b) (N4.s11 r) && (f (16 * a) (12 * a + b) (N4.s12 r) && (f (16 * a) (13 * a + b) (N4.s13 r) && (f (16 * a) (14 * a + b) (N4.s14 r) && (f (16 * a) (15 * a + b) (N4.s15 r))))))))))))))))
theorem B0.ok {q : Nat → α → Bool} {a b : Nat} {x : Option α} (h : B0 q a b x = true) : A0 (fun k v => q k v = true) a b x := by
  intro v hv; subst hv; exact h
theorem BU.ok {f : Nat → Nat → β → Bool} {A : Nat → Nat → β → Prop} (hf : ∀ {a b x}, f a b x = true → A a b x) {a b : Nat} {r : N4 β} (h : BU f a b r = true) : AU A a b r := by
  simp only [BU, Bool.and_eq_true] at h
  obtain ⟨h0, h1, h2, h3, h4, h5, h6, h7, h8, h9, h10, h11, h12, h13, h14, h15⟩ := h
  cases r
  exact AU.mk (hf h0) (hf h1) (hf h2) (hf h3) (hf h4) (hf h5) (hf h6) (hf h7) (hf h8) (hf h9) (hf h10) (hf h11) (hf h12) (hf h13) (hf h14) (hf h15)
def allB (q : Nat → α → Bool) (t : PT α) : Bool := PT.rec (motive := fun _ => Bool) (fun a b c g => BU (B0 q) 1 0 a && (BU (BU (B0 q)) 1 0 b && (BU (BU (BU (BU (B0 q)))) 1 0 c && isNilBT g))) t
where isNilBT (g : BT α) : Bool := BT.rec (motive := fun _ => Bool) true (fun _ _ _ _ _ => false) g
theorem allB_ok {q : Nat → α → Bool} {t : PT α} (h : allB q t = true) : All (fun k v => q k v = true) t := by
  obtain ⟨a, b, c, g⟩ := t
  have h : (BU (B0 q) 1 0 a && (BU (BU (B0 q)) 1 0 b && (BU (BU (BU (BU (B0 q)))) 1 0 c && allB.isNilBT g))) = true := h
  simp only [Bool.and_eq_true] at h
  obtain ⟨h1, h2, h3, h4⟩ := h
  cases g with
  | node => cases h4
  | nil => exact All.of (BU.ok B0.ok h1) (BU.ok (BU.ok B0.ok) h2) (BU.ok (BU.ok (BU.ok (BU.ok B0.ok))) h3)
end

def fieldsB : List Field → List (Nat × Nat × Bool) → Bool
  | [], [] => true
  | f :: fs, g :: gs => Nat.beq f.offset g.1 && (Nat.beq f.type g.2.1 && ((decide (f.name ≠ "_") == g.2.2) && fieldsB fs gs))
  | _, _ => false

def descB : TypeDesc → TyD → Bool
  | .bool, .bool => true
  | .string, .string => true
  | .int k, .int k' => eqKind k k'
  | .pointer e, .pointer e' => Nat.beq e e'
  | .slice e, .slice e' => Nat.beq e e'
  | .array n e, .array n' e' => Nat.beq n n' && Nat.beq e e'
  | .map k e, .map k' e' => Nat.beq k k' && Nat.beq e e'
  | .struct fs, .struct fs' => fieldsB fs.toList fs'
  | .interface _, .iface => true
  | .func _ _ _, .func => true
  | .tuple _, .tuple => true
  | .float _, .other => true
  | .complex _, .other => true
  | .chan _ _, .other => true
  | .unsafePointer, .other => true
  | .invalid, .other => true
  | _, _ => false

theorem fieldsB_ok : ∀ {fs : List Field} {gs : List (Nat × Nat × Bool)}, fieldsB fs gs = true → gs = fs.map fun f => (f.offset, f.type, decide (f.name ≠ "_"))
  | [], [], _ => rfl
  | [], _ :: _, h => by simp [fieldsB] at h
  | _ :: _, [], h => by simp [fieldsB] at h
  | f :: fs, (a, b, c) :: gs, h => by
    simp only [fieldsB, Bool.and_eq_true] at h
    obtain ⟨h1, h2, h3, h4⟩ := h
    rw [List.map_cons, ← fieldsB_ok h4, ← beq_iff.1 h1, ← beq_iff.1 h2, ← (beq_iff_eq.1 h3)]

theorem descB_ok {d : TypeDesc} {t : TyD} (h : descB d t = true) : DOk d t := by
  cases d <;> cases t <;> simp only [descB, Bool.and_eq_true, beq_iff, eqKind_eq, decide_eq_true_eq, DOk] at h ⊢ <;> first | exact h | trivial | (exact fieldsB_ok h) | simp at h

def oneNotAgg (v : Value) : Bool := match v with
  | .agg _ => false
  | .tuple _ => false
  | _ => true
def isAggV (v : Value) : Bool := match v with
  | .agg _ => true
  | _ => false

def zeroB (ti : TyI) (v : Option Value) : Bool :=
  match ti.zero with
  | none => true
  | some z => match v with
    | none => false
    | some v => (match ofValues v.cells.toList with
      | some z' => sameAVs z z'
      | none => false) && (if ti.agg then isAggV v else oneNotAgg v)

def tyCheck (P : Program) (t : Nat) (ti : TyI) : Bool :=
  (match P.info? t with
   | some i => Nat.beq i.size ti.size && (Nat.beq i.bytes ti.bytes && zeroB ti i.zero)
   | none => false) &&
  ((match P.underlying t with
    | some d => descB d ti.d
    | none => false) &&
   ((ti.agg == ti.d.isAgg) && (!ti.eqs || (!P.eqGuardType P.depth t && !P.stoodInHeld t))))

theorem tyCheck_ok {P : Program} {t : Nat} {ti : TyI} (h : tyCheck P t ti = true) : TyOk P t ti := by
  simp only [tyCheck, Bool.and_eq_true] at h
  obtain ⟨h1, h2, h3, h4⟩ := h
  refine ⟨?_, ?_, beq_iff_eq.1 h3, fun he => ?_⟩
  · split at h1
    · rename_i i hi
      simp only [Bool.and_eq_true] at h1
      obtain ⟨k1, k2, k3⟩ := h1
      refine ⟨i, hi, beq_iff.1 k1, beq_iff.1 k2, fun z hz => ?_⟩
      simp only [zeroB, hz] at k3
      split at k3
      · simp at k3
      · rename_i v hv
        simp only [Bool.and_eq_true] at k3
        obtain ⟨l1, l2⟩ := k3
        split at l1
        · rename_i z' hz'
          refine ⟨v, hv, by rw [sameAVs_eq l1]; exact hz', fun ha => ?_, fun ha => ?_⟩
          · rw [if_pos ha] at l2
            cases v <;> simp [isAggV] at l2
            exact ⟨_, rfl⟩
          · rw [if_neg (by simp [ha])] at l2
            cases v <;> simp [oneNotAgg] at l2 <;> rfl
        · simp at l1
    · simp at h1
  · split at h2
    · rename_i d hd; exact ⟨d, hd, descB_ok h2⟩
    · simp at h2
  · simp [he] at h4; exact h4

def fieldsIn (tys : PT TyI) (_ : Nat) (ti : TyI) : Bool :=
  match ti.d with
  | .struct fs => fs.all fun fd => (tys.get fd.2.1).isSome
  | _ => true

theorem envOk {P : Program} {E : Env} (hf : All (fun f fn => P.funcs[f]? = some fn ∧ ∀ args w, (callFunc f args).run P w = .ok (.enter f args) w) E.fns)
    (ht : allB (tyCheck P) E.tys = true) (hx : ∀ f k, E.ext.get f = some k → ∀ (ρ : Nat → Value) (γ : G) (own : Nat → Prop) (hp : Heap) args v args' w, HR ρ γ own hp w → extA hp k args = some v → VRs ρ γ args args' →
    ∃ v', (callFunc f ⟨args'⟩).run P w = .ok (.value v') w ∧ VR ρ γ v v') (hm : P.follows .mixedOrders = true) (hfd : allB (fieldsIn E.tys) E.tys = true) : EnvOk P E := by
  refine ⟨hf, fun t ti h => tyCheck_ok (allB_ok ht t ti h), hx, hm, fun t ti fs h hd fd hmem => ?_⟩
  have := allB_ok hfd t ti h
  simp only [fieldsIn, hd, List.all_eq_true] at this
  exact Option.isSome_iff_exists.1 (this fd hmem)
end
end Go.Ev
