/- The environment; operands; operations that leave memory alone: first part. -/
import Derived.Test.YtmplfbdnidlpoaaGreatDoorEvRel
namespace Go.Ev
noncomputable section

def DOk : TypeDesc → TyD → Prop
  | .bool, .bool => True
  | .string, .string => True
  | .int k, .int k' => k = k'
  | .pointer e, .pointer e' => e = e'
  | .slice e, .slice e' => e = e'
  | .array n e, .array n' e' => n = n' ∧ e = e'
  | .map k e, .map k' e' => k = k' ∧ e = e'
  | .struct fs, .struct fs' => fs' = fs.toList.map fun f => (f.offset, f.type, decide (f.name ≠ "_"))
  | .interface _, .iface => True
  | .func _ _ _, .func => True
  | .tuple _, .tuple => True
  | .float _, .other => True
  | .complex _, .other => True
  | .chan _ _, .other => True
  | .unsafePointer, .other => True
  | .invalid, .other => True
  | _, _ => False

def TyD.isAgg : TyD → Bool
  | .struct _ | .array _ _ => true
  | _ => false

structure TyOk (P : Program) (t : Nat) (ti : TyI) : Prop where
  info : ∃ i, P.info? t = some i ∧ i.size = ti.size ∧ i.bytes = ti.bytes ∧
    ∀ z, ti.zero = some z → ∃ v, i.zero = some v ∧ ofValues v.cells.toList = some z ∧ (ti.agg = true → ∃ cs, v = .agg cs) ∧ (ti.agg = false → v.cells = #[v])
  desc : ∃ d, P.underlying t = some d ∧ DOk d ti.d
  agg : ti.agg = ti.d.isAgg
  eqs : ti.eqs = true → P.eqGuardType P.depth t = false ∧ P.stoodInHeld t = false

structure EnvOk (P : Program) (E : Env) : Prop where
  fns : ∀ f fn, E.fns.get f = some fn → P.funcs[f]? = some fn ∧ ∀ args w, (callFunc f args).run P w = .ok (.enter f args) w
  tys : ∀ t ti, E.tys.get t = some ti → TyOk P t ti
  ext : ∀ f k, E.ext.get f = some k → ∀ (ρ : Nat → Value) (γ : G) (own : Nat → Prop) (hp : Heap) args v args' w, HR ρ γ own hp w → extA hp k args = some v → VRs ρ γ args args' →
    ∃ v', (callFunc f ⟨args'⟩).run P w = .ok (.value v') w ∧ VR ρ γ v v'
  mixed : P.follows .mixedOrders = true
  fields : ∀ t ti fs, E.tys.get t = some ti → ti.d = .struct fs → ∀ fd ∈ fs, ∃ fi, E.tys.get fd.2.1 = some fi

section
variable {P : Program} {t : Nat} {ti : TyI} (w : World)

theorem TyOk.run_sizeOf (h : TyOk P t ti) : (sizeOf t).run P w = .ok ti.size w := by
  obtain ⟨i, hi, hs, _⟩ := h.info
  simp [sizeOf, typeInfo, hi, hs]
theorem TyOk.run_underlying (h : TyOk P t ti) : ∃ d, DOk d ti.d ∧ ∀ w, (underlying t).run P w = .ok d w := by
  obtain ⟨d, hd, ho⟩ := h.desc
  exact ⟨d, ho, fun w => by simp [underlying, hd]⟩
theorem TyOk.run_isAgg (h : TyOk P t ti) : (isAgg t).run P w = .ok ti.agg w := by
  obtain ⟨d, ho, hd⟩ := h.run_underlying
  rw [h.agg]
  simp only [isAgg, Sem.run_bind, hd, Result.andThen_ok]
  cases d <;> cases hti : ti.d <;> simp [DOk, hti, TyD.isAgg] at ho ⊢
theorem TyOk.run_typeInfo (h : TyOk P t ti) : ∃ i, i.size = ti.size ∧ i.bytes = ti.bytes ∧ (∀ w, (typeInfo t).run P w = .ok i w) ∧
    (∀ z, ti.zero = some z → ∃ v, i.zero = some v ∧ ofValues v.cells.toList = some z ∧ (ti.agg = true → ∃ cs, v = .agg cs) ∧ (ti.agg = false → v.cells = #[v])) := by
  obtain ⟨i, hi, hs, hb, hz⟩ := h.info
  exact ⟨i, hs, hb, fun w => by simp [typeInfo, hi], hz⟩
end

theorem toBA_bytesOf (s : ByteArray) : toBA (bytesOf s) = s := by
  cases s with
  | mk d =>
    cases d with
    | mk l =>
      simp only [toBA, bytesOf]
      congr 1
      simp only [List.map_map]
      congr 1
      conv => rhs; rw [← List.map_id l]
      apply List.map_congr_left
      intro x _
      simp
theorem bytesOf_lt (s : ByteArray) : ∀ x ∈ bytesOf s, x < 256 := by
  intro x hx
  simp only [bytesOf, List.mem_map] at hx
  obtain ⟨b, _, rfl⟩ := hx
  exact b.toNat_lt

mutual
theorem ofValue_ok (ρ : Nat → Value) (γ : G) : ∀ (v : Value) (a : AV), ofValue v = some a → VR ρ γ a v
  | .bool b, a, h => by simp [ofValue] at h; subst h; exact .bool b
  | .int k n, a, h => by simp [ofValue] at h; subst h; exact .int k n
  | .string s, a, h => by
    simp [ofValue] at h; subst h
    have := VR.str (ρ := ρ) (γ := γ) (bytesOf s) (bytesOf_lt s)
    rwa [toBA_bytesOf] at this
  | .pointer none, a, h => by simp [ofValue] at h; subst h; exact .nilPtr
  | .pointer (some _), a, h => by simp [ofValue] at h
  | .slice none 0 0, a, h => by simp [ofValue] at h; subst h; exact .nilSlice
  | .slice none 0 (n+1), a, h => by simp [ofValue] at h
  | .slice none (n+1) m, a, h => by simp [ofValue] at h
  | .slice (some _) _ _, a, h => by simp [ofValue] at h
  | .map none, a, h => by simp [ofValue] at h; subst h; exact .nilMap
  | .map (some _), a, h => by simp [ofValue] at h
  | .nilFunc, a, h => by simp [ofValue] at h; subst h; exact .nilFunc
  | .nilIface, a, h => by simp [ofValue] at h; subst h; exact .nilIface
  | .agg ⟨cs⟩, a, h => by
    simp only [ofValue, ob_some] at h
    obtain ⟨l, hl, he⟩ := h
    injection he with he; subst he
    exact .agg _ _ (ofValues_ok ρ γ cs l hl)
  | .iface t v, a, h => by
    simp only [ofValue, ob_some] at h
    obtain ⟨l, hl, he⟩ := h
    injection he with he; subst he
    exact .iface _ _ _ (ofValue_ok ρ γ v l hl)
  | .func fn ⟨[]⟩ ⟨[]⟩, a, h => by simp [ofValue] at h; subst h; exact .func _ _ _ .nil
  | .func fn ⟨_ :: _⟩ ⟨_⟩, a, h => by simp [ofValue] at h
  | .func fn ⟨[]⟩ ⟨_ :: _⟩, a, h => by simp [ofValue] at h
  | .float _ _, a, h => by simp [ofValue] at h
  | .complex _ _ _, a, h => by simp [ofValue] at h
  | .chan _, a, h => by simp [ofValue] at h
  | .tuple _, a, h => by simp [ofValue] at h
theorem ofValues_ok (ρ : Nat → Value) (γ : G) : ∀ (vs : List Value) (as : List AV), ofValues vs = some as → VRs ρ γ as vs
  | [], as, h => by simp [ofValues] at h; subst h; exact .nil
  | v :: vs, as, h => by
    simp only [ofValues, ob_some] at h
    obtain ⟨x, hx, y, hy, he⟩ := h
    injection he with he; subst he
    exact .cons _ _ _ _ (ofValue_ok ρ γ v x hx) (ofValues_ok ρ γ vs y hy)
end

/-- slots -/
structure TmR (ρ : Nat → Value) (γ : G) (tm : PT AV) (nt : Nat) (a : Act) : Prop where
  size : a.tmps.size = nt
  get : ∀ t v, tm.get t = some v → ∃ v', a.tmps[t]? = some v' ∧ VR ρ γ v v'

section
variable {ρ : Nat → Value} {γ : G} {tm : PT AV} {nt : Nat} {a : Act}

theorem opnd_ok (h : TmR ρ γ tm nt a) : ∀ {x : Operand} {v : AV}, opnd tm x = some v → VR ρ γ v (a.eval x)
  | .tmp t, v, hx => by
    obtain ⟨v', h1, h2⟩ := h.get t v hx
    simpa [Act.eval, Array.getD_eq_getD_getElem?, h1] using h2
  | .const c, v, hx => ofValue_ok ρ γ c v hx
  | .global _, v, hx => by simp [opnd] at hx
  | .func f, v, hx => by simp [opnd] at hx; subst hx; exact .func _ _ _ .nil
theorem opnds_ok (h : TmR ρ γ tm nt a) : ∀ (xs : List Operand) (vs : List AV), opnds tm xs = some vs → VRs ρ γ vs (xs.map a.eval)
  | [], vs, hx => by simp [opnds] at hx; subst hx; exact .nil
  | x :: xs, vs, hx => by
    simp only [opnds, ob_some] at hx
    obtain ⟨v, hv, us, hus, he⟩ := hx
    injection he with he; subst he
    exact .cons _ _ _ _ (opnd_ok h hv) (opnds_ok h xs us hus)

/-- bounds of a slice expression, as they stand to the model's -/
def OVR (ρ : Nat → Value) (γ : G) : Option AV → Option Value → Prop
  | none, none => True
  | some a, some v => VR ρ γ a v
  | _, _ => False
theorem optOpnd_ok (h : TmR ρ γ tm nt a) {x : Option Operand} {v : Option AV} (hx : optOpnd tm x = some v) : OVR ρ γ v (x.map a.eval) := by
  cases x with
  | none => simp [optOpnd] at hx; subst hx; trivial
  | some o =>
    simp only [optOpnd, ob_some] at hx
    obtain ⟨u, hu, he⟩ := hx
    injection he with he; subst he
    exact opnd_ok h hu
theorem opndParts_ok (h : TmR ρ γ tm nt a) : ∀ (xs : List (Nat × Operand)) (vs : List (Nat × AV)), opndParts tm xs = some vs →
    vs.map (·.1) = xs.map (·.1) ∧ VRs ρ γ (vs.map (·.2)) (xs.map fun p => a.eval p.2)
  | [], vs, hx => by simp [opndParts] at hx; subst hx; exact ⟨rfl, .nil⟩
  | (i, x) :: xs, vs, hx => by
    simp only [opndParts, ob_some] at hx
    obtain ⟨v, hv, us, hus, he⟩ := hx
    injection he with he; subst he
    obtain ⟨h1, h2⟩ := opndParts_ok h xs us hus
    exact ⟨by simp [h1], .cons _ _ _ _ (opnd_ok h hv) h2⟩
end

/-! extraction -/
theorem AV.bool?_some {v : AV} {b : Bool} : v.bool? = some b ↔ v = .bool b := by cases v <;> simp [AV.bool?]
theorem AV.nat?_some {v : AV} {n : Nat} : v.nat? = some n ↔ ∃ k, v = .int k (.ofNat n) := by
  cases v <;> simp [AV.nat?]
  rename_i k m; cases m <;> simp <;> omega
theorem AV.str?_some {v : AV} {s : List Nat} : v.str? = some s ↔ v = .str s := by cases v <;> simp [AV.str?]
theorem AV.ptr?_some {v : AV} {p : Nat × Nat} : v.ptr? = some p ↔ v = .ptr p.1 p.2 := by
  cases v <;> simp [AV.ptr?]
  rename_i b o; cases p; simp
theorem AV.agg?_some {v : AV} {s : List AV} : v.agg? = some s ↔ v = .agg s := by cases v <;> simp [AV.agg?]
theorem AV.tup?_some {v : AV} {s : List AV} : v.tup? = some s ↔ v = .tup s := by cases v <;> simp [AV.tup?]
theorem AV.map?_some {v : AV} {b : Nat} : v.map? = some b ↔ v = .map b := by cases v <;> simp [AV.map?]
theorem AV.iface?_some {v : AV} {p : Nat × AV} : v.iface? = some p ↔ v = .iface p.1 p.2 := by
  cases v <;> simp [AV.iface?]
  rename_i b o; cases p; simp
theorem AV.func?_some {v : AV} {p : Nat × List AV} : v.func? = some p ↔ v = .func (.func p.1) p.2 := by
  cases v <;> simp [AV.func?]
  rename_i f c; cases f <;> simp
  cases p; simp
theorem TyI.slice?_some {t : TyI} {e : Nat} : t.slice? = some e ↔ t.d = .slice e := by unfold TyI.slice?; split <;> simp_all
theorem TyI.array?_some {t : TyI} {p : Nat × Nat} : t.array? = some p ↔ t.d = .array p.1 p.2 := by
  unfold TyI.array?; split <;> simp_all
  rename_i n e _; cases p; simp
theorem TyI.map?_some {t : TyI} {p : Nat × Nat} : t.map? = some p ↔ t.d = .map p.1 p.2 := by
  unfold TyI.map?; split <;> simp_all
  rename_i n e _; cases p; simp
theorem TyI.struct?_some {t : TyI} {fs : List (Nat × Nat × Bool)} : t.struct? = some fs ↔ t.d = .struct fs := by unfold TyI.struct?; split <;> simp_all
theorem AObj.cells?_some {o : AObj} {p : PT AV × List AV × Nat} : o.cells? = some p ↔ o = .cells p.1 p.2.1 p.2.2 := by
  cases o <;> simp [AObj.cells?]
  rename_i t z n; cases p; rename_i q; cases q; simp
theorem AObj.map?_some {o : AObj} {p : List (AV × AV × Nat) × Nat} : o.map? = some p ↔ o = .map p.1 p.2 := by
  cases o <;> simp [AObj.map?]
  rename_i t z; cases p; simp
theorem one?_some {l : List AV} {v : AV} : one? l = some v ↔ l = [v] := by
  unfold one?; split <;> simp_all

section
variable {P : Program} {E : Env} (hE : EnvOk P E) {ρ : Nat → Value} {γ : G} {own : Nat → Prop} {hp : Heap} {w : World}
include hE

omit hE in
theorem asTy_ok {ti : TyI} {cs : List AV} {v : AV} {vs : List Value} (h : asTy ti cs = some v) (hv : VRs ρ γ cs vs) :
    (ti.agg = true ∧ VR ρ γ v (.agg ⟨vs⟩)) ∨ (ti.agg = false ∧ ∃ u, vs = [u] ∧ VR ρ γ v u) := by
  unfold asTy at h
  cases hg : ti.agg with
  | true =>
    rw [hg] at h; simp at h; subst h
    exact .inl ⟨rfl, .agg _ _ hv⟩
  | false =>
    rw [hg] at h; simp [one?_some] at h; subst h
    cases hv with
    | cons _ u _ us h1 h2 => cases h2; exact .inr ⟨rfl, u, rfl, h1⟩

theorem load_ok (h : HR ρ γ own hp w) {t : Nat} {p v : AV} {p' : Value} (hl : loadA E hp t p = some v) (hp' : VR ρ γ p p') :
    ∃ v', (Instr.loadAt t p').run P w = .ok v' w ∧ VR ρ γ v v' := by
  simp only [loadA, ob_some, AV.ptr?_some] at hl
  obtain ⟨⟨b, off⟩, rfl, ti, hti, cs, hcs, hv⟩ := hl
  cases hp' with
  | ptr _ _ g hg =>
    have ht := hE.tys t ti hti
    obtain ⟨g', hg', hlen, vs, hvs, hcell⟩ := readAt_cells h hcs
    rw [hg] at hg'; injection hg' with hg'; subst hg'
    have hlv := hvs.length
    rcases asTy_ok hv hvs with ⟨ha, hr⟩ | ⟨ha, u, hu, hr⟩
    · refine ⟨_, ?_, hr⟩
      have := run_loadCells_of (P := P) (w := w) (a := ⟨g.blk, g.δ + off, none⟩) rfl hcell
      rw [← hlv, hlen] at this
      simp [Instr.loadAt, Instr.sureAddr, loadVar, ht.run_isAgg, ha, ht.run_sizeOf, this]
    · refine ⟨_, ?_, hr⟩
      subst hu
      have := hcell 0 u rfl
      simp at this
      simp [Instr.loadAt, Instr.sureAddr, loadVar, ht.run_isAgg, ha, this]
end
end
end Go.Ev
