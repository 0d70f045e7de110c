/- The table of facts holds. -/
import Derived.Test.YtmnfaoodanikcaaGreatEvRace
namespace Go.Ev
noncomputable section

/-- how opaque values are named in the round of index 'k' -/
def names (picks : Value) (len : Nat) (k : Nat) (p : Value) (x : Int) : Nat → Value
  | 0 => picks
  | 1 => .int .i64 k
  | 2 => .int .i64 len
  | 3 => .int .i64 (k + 1)
  | 4 => p
  | 5 => .int .i64 x
  | 6 => .int .u64 (IntKind.wrap .u64 x)
  | _ => undef

section
variable {P : Program} {E : Env} {w : World}

theorem isOpq_some {j : Nat} {x : Option AV} (h : isOpq j x = true) : x = some (.opq j) := by
  unfold isOpq at h
  split at h
  · rw [beq_iff.1 h]
  · simp at h

theorem isIdx_val {ki : Option Nat} {v : AV} {v' : Value} {ρ : Nat → Value} {γ : G} {k : Nat} (hki : ki = none ∨ ki = some k) (hρ : ρ 1 = .int .i64 k) (h : isIdx ki v = true) (hv : VR ρ γ v v') : v' = .int .i64 k := by
  unfold isIdx at h
  split at h
  · rename_i k' j
    have := beq_iff.1 h
    subst this
    rcases hki with hki | hki
    · cases hki
    · injection hki with hki; subst hki
      cases hv; rfl
  · have := beq_iff.1 h
    subst this
    cases hv; exact hρ
  · simp at h


theorem tab_ok (hE : EnvOk P E) {ti tu ts : Nat} {si ii ui : TyI} (hts : E.tys.get ts = some si) (hsd : si.d = .slice ti) (hti : E.tys.get ti = some ii) (hid : ii.d = .int .i64) (hsz : ii.size = 1)
    (htu : E.tys.get tu = some ui) (hud : ui.d = .int .u64) {q : Option Addr} {len cap k : Nat} {p : Value} {x : Int} {ki : Option Nat} {c1 c2 : Bool} {d : Option Nat}
    (hki : ki = none ∨ ki = some k) (hc1 : c1 = decide (k < len)) (hc2 : c2 = decide (k < 100)) (hk : k ≤ 100)
    (hidx : k < len → ∃ a, q = some a ∧ p = .pointer (some (a.add k)) ∧ w.cell? (a.add k) = some (.int .i64 x))
    (hd : ∀ d', d = some d' → (IntKind.wrap .u64 x).tmod 2 = (d' : Int)) : HOk P (names (.slice q len cap) len k p x) w (tab ti tu ts ki c1 c2 d) := by
  intro γ nt tm a o v hT h
  obtain ⟨sd, hs1, hs2⟩ := (hE.tys _ _ hts).run_underlying
  rw [hsd] at hs1
  cases sd <;> simp only [DOk] at hs1
  rename_i e0
  have hs1 := hs1.symm
  subst hs1
  obtain ⟨idd, hi1, hi2⟩ := (hE.tys _ _ hti).run_underlying
  rw [hid] at hi1
  cases idd <;> simp only [DOk] at hi1
  subst hi1
  obtain ⟨ud, hu1, hu2⟩ := (hE.tys _ _ htu).run_underlying
  rw [hud] at hu1
  cases ud <;> simp only [DOk] at hu1
  subst hu1
  have opq : ∀ {j : Nat} {y : Operand}, isOpq j (opnd tm y) = true → a.eval y = names (.slice q len cap) len k p x j := by
    intro j y hy
    have := opnd_ok hT (isOpq_some hy)
    generalize a.eval y = z at this
    cases this; rfl
  have idx : ∀ {y : Operand} {u : AV}, opnd tm y = some u → isIdx ki u = true → a.eval y = .int .i64 k := by
    intro y u hy hu
    exact isIdx_val hki rfl hu (opnd_ok hT hy)
  obtain ⟨dst, op, ty, pos, after, guard⟩ := o
  simp only at h
  unfold tab at h
  split at h
  · rename_i c
    split at h
    · rename_i t _ y hcal hat hargs
      simp only [og_some, Bool.and_eq_true] at h
      obtain ⟨⟨h1, h2⟩, h⟩ := h
      injection h with h; subst h
      have h1 := beq_iff.1 h1
      have he := opq h2
      refine ⟨.int .i64 len, ?_, .opq 2⟩
      have g0 : c.argTypes[0]? = some ts := by rw [← Array.getElem?_toList, hat, ← h1]; rfl
      have g1 : (c.args.map a.eval)[0]? = some (.slice q len cap) := by
        rw [← Array.getElem?_toList, Array.toList_map, hargs]
        simp only [List.map_cons, List.getElem?_cons_zero, he, names]
      simp only [execOp, resolve, hcal, Sem.run_bind, Sem.run_pure, Result.andThen_ok, invoke, builtin, Builtin.len_, g0, g1, hs2, goInt]
    · simp at h
  · rename_i bt y z _
    unfold tabLss at h
    split at h
    · rename_i ia kk hy hz
      simp only [og_some, Bool.and_eq_true] at h
      obtain ⟨⟨h1, h2⟩, h⟩ := h
      injection h with h; subst h
      have hyv := idx hy h1
      have hzv : a.eval z = .int .i64 len := opq (by rw [hz]; exact h2)
      refine ⟨.bool (decide (k < len)), ?_, by rw [hc1]; exact .bool _⟩
      simp [execOp, hyv, hzv, eqGuard, binOp, Op.intCmp]
    · rename_i kk b hy hz
      simp only [og_some, Bool.and_eq_true] at h
      obtain ⟨⟨h1, h2⟩, h⟩ := h
      injection h with h; subst h
      have hb := beq_iff.1 h2
      subst hb
      have hyv : a.eval y = .int .i64 k := opq (by rw [hy]; exact h1)
      have hzv : a.eval z = .int .i64 100 := by
        have := opnd_ok hT hz
        generalize a.eval z = u at this
        cases this; rfl
      refine ⟨.bool (decide (k < 100)), ?_, by rw [hc2]; exact .bool _⟩
      simp [execOp, hyv, hzv, eqGuard, binOp, Op.intCmp]
      omega
    · simp at h
  · rename_i bt y z _
    simp only [tabAdd, og_some] at h
    obtain ⟨h1, h⟩ := h
    split at h
    · rename_i b hz
      simp only [og_some] at h
      obtain ⟨h2, h⟩ := h
      injection h with h; subst h
      have hb := beq_iff.1 h2
      subst hb
      have hyv : a.eval y = .int .i64 k := opq h1
      have hzv : a.eval z = .int .i64 1 := by
        have := opnd_ok hT hz
        generalize a.eval z = u at this
        cases this; rfl
      refine ⟨.int .i64 (k + 1), ?_, .opq 3⟩
      have hw : IntKind.i64.wrap ((k : Int) + 1) = (k : Int) + 1 := by rw [i64_wrap]; split <;> omega
      simp [execOp, hyv, hzv, eqGuard, binOp, Op.intArith, hw]
    · simp at h
  · rename_i bt y z _
    simp only [tabRem, og_some] at h
    obtain ⟨h1, h⟩ := h
    split at h
    · rename_i m hz
      have hyv : a.eval y = .int .u64 (IntKind.wrap .u64 x) := opq h1
      have hzv : a.eval z = .int .u64 m := by
        have := opnd_ok hT hz
        generalize a.eval z = u at this
        cases this; rfl
      rw [bc_eq] at h
      split at h
      · rename_i hm
        have hm := beq_iff.1 hm
        subst hm
        injection h with h; subst h
        refine ⟨.int .u64 0, ?_, .int _ _⟩
        simp [execOp, hyv, hzv, eqGuard, binOp, Op.intDiv]
      · simp only [og_some, ob_some] at h
        obtain ⟨hm, d', hd', h⟩ := h
        have hm := beq_iff.1 hm
        subst hm
        injection h with h; subst h
        refine ⟨.int .u64 d', ?_, .int _ _⟩
        have := hd d' hd'
        simp [execOp, hyv, hzv, eqGuard, binOp, Op.intDiv, this]
    · simp at h
  · rename_i t y z
    simp only [og_some, ob_some, Bool.and_eq_true] at h
    obtain ⟨⟨⟨h0, h1⟩, h2⟩, u, hu, h3, h⟩ := h
    injection h with h; subst h
    have h1 := beq_iff.1 h1
    subst h1
    rw [hc1] at h0
    have hlt : k < len := by simpa using h0
    obtain ⟨ad, rfl, rfl, _⟩ := hidx hlt
    have hyv : a.eval y = .slice (some ad) len cap := opq h2
    have hzv := idx hu h3
    refine ⟨_, ?_, .opq 4⟩
    have : (0 : Int) ≤ (k : Int) ∧ (k : Int) < (len : Nat) := ⟨by omega, by exact Int.ofNat_lt.2 hlt⟩
    simp only [execOp, hyv, hzv, Instr.indexAt, asIntOf, Sem.run_bind, Sem.run_pure, Result.andThen_ok, hs2]
    simp only [if_pos this, Sem.run_bind, (hE.tys _ _ hti).run_sizeOf, Result.andThen_ok, Sem.run_pure, hsz, Nat.mul_one, Int.toNat_natCast, names]
  · rename_i t y
    simp only [og_some, Bool.and_eq_true] at h
    obtain ⟨⟨⟨h0, h1⟩, h2⟩, h⟩ := h
    injection h with h; subst h
    have h1 := beq_iff.1 h1
    subst h1
    rw [hc1] at h0
    have hlt : k < len := by simpa using h0
    obtain ⟨ad, rfl, rfl, hcell⟩ := hidx hlt
    have hyv : a.eval y = .pointer (some (ad.add k)) := opq h2
    refine ⟨.int .i64 x, ?_, .opq 5⟩
    have hag : ii.agg = false := by rw [(hE.tys _ _ hti).agg, hid]; rfl
    simp [execOp, hyv, Instr.loadAt, Instr.sureAddr, loadVar, (hE.tys _ _ hti).run_isAgg, hag, hcell]
  · rename_i sc t y
    simp only [og_some, Bool.and_eq_true] at h
    obtain ⟨⟨h1, h2, h3⟩, h⟩ := h
    injection h with h; subst h
    have h1 := beq_iff.1 h1
    have h2 := beq_iff.1 h2
    subst h1; subst h2
    have hyv : a.eval y = .int .i64 x := opq h3
    refine ⟨.int .u64 (IntKind.wrap .u64 x), ?_, .opq 6⟩
    simp [execOp, hyv, convert, hi2, hu2, Conv.intToInt]
  · simp at h
end
end
end Go.Ev
