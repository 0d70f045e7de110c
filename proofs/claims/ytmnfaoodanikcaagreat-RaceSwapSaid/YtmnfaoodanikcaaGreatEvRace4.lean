/- The list that is not known: what is said of it; the table holds in every round. -/
import Derived.Test.YtmnfaoodanikcaaGreatEvRace3
namespace Go.Ev
noncomputable section

/-- a list of numbers, by classes: how many (none, one, more), which the first picks of two -/
structure Picks (B : Base) (m d : Nat) (q : Option Addr) (len cap : Nat) : Prop where
  val : B.ρ 0 = .slice q len cap
  cls : (m = 0 ∧ len = 0) ∨ (m = 1 ∧ len = 1) ∨ (m = 2 ∧ 2 ≤ len)
  cell : ∀ k, k < len → ∃ a x, q = some a ∧ (∀ w', Fr B.own B.w w' → w'.cell? (a.add k) = some (.int .i64 x)) ∧ (k = 0 → (IntKind.wrap .u64 x).tmod 2 = (d : Int))

/-- the types that the table names -/
structure TabTys (E : Env) (ti tu ts : Nat) : Prop where
  s : ∃ si, E.tys.get ts = some si ∧ si.d = .slice ti
  i : ∃ ii, E.tys.get ti = some ii ∧ ii.d = .int .i64 ∧ ii.size = 1
  u : ∃ ui, E.tys.get tu = some ui ∧ ui.d = .int .u64

section
variable {P : Program} {E : Env} {B : Base}

/-- the names of each round, with which the table holds in every later world -/
theorem Picks.names {m d : Nat} {q : Option Addr} {len cap : Nat} (h : Picks B m d q len cap) (hE : EnvOk P E) {ti tu ts : Nat} (hT : TabTys E ti tu ts) (k : Nat) (hk : k ≤ 100) : ∃ ρ : Nat → Value, ρ 0 = B.ρ 0 ∧ ρ 1 = .int .i64 k ∧ ρ 3 = .int .i64 (k + 1) ∧
    ∀ (ki : Option Nat) (c1 c2 : Bool) (dd : Option Nat), (ki = none ∨ ki = some k) → c1 = decide (k < len) → c2 = decide (k < 100) → (dd = none ∨ (dd = some d ∧ k = 0 ∧ k < len)) → ∀ w', Fr B.own B.w w' → HOk P ρ w' (tab ti tu ts ki c1 c2 dd) := by
  obtain ⟨si, hs1, hs2⟩ := hT.s
  obtain ⟨ii, hi1, hi2, hi3⟩ := hT.i
  obtain ⟨ui, hu1, hu2⟩ := hT.u
  by_cases hlt : k < len
  · obtain ⟨a, x, hq, hc, hd⟩ := h.cell k hlt
    refine ⟨Go.Ev.names (.slice q len cap) len k (.pointer (some (a.add k))) x, h.val.symm, rfl, rfl, fun ki c1 c2 dd hki hc1 hc2 hdd w' hw => ?_⟩
    refine tab_ok hE hs1 hs2 hi1 hi2 hi3 hu1 hu2 hki hc1 hc2 hk (fun _ => ⟨a, hq, rfl, hc w' hw⟩) (fun d' hd' => ?_)
    · rcases hdd with hdd | ⟨hdd, hk0, _⟩
      · rw [hdd] at hd'; cases hd'
      · rw [hdd] at hd'; injection hd' with hd'; subst hd'; exact hd hk0
  · refine ⟨Go.Ev.names (.slice q len cap) len k undef 0, h.val.symm, rfl, rfl, fun ki c1 c2 dd hki hc1 hc2 hdd w' hw => ?_⟩
    refine tab_ok hE hs1 hs2 hi1 hi2 hi3 hu1 hu2 hki hc1 hc2 hk (fun hh => absurd hh hlt) (fun d' hd' => ?_)
    rcases hdd with hdd | ⟨_, _, hh⟩
    · rw [hdd] at hd'; cases hd'
    · exact absurd hh hlt

/-- a list of numbers, wherever it lies -/
def picksK (q : Option Addr) (len cap : Nat) (xs : Nat → Int) : KI := fun v w => v = .slice q len cap ∧ ∀ k, k < len → ∃ a, q = some a ∧ w.cell? (a.add k) = some (.int .i64 (xs k))

theorem Picks.of_good {q : Option Addr} {len cap m d : Nat} {xs : Nat → Int} (hB : Good (picksK q len cap xs) B) (hc : (m = 0 ∧ len = 0) ∨ (m = 1 ∧ len = 1) ∨ (m = 2 ∧ 2 ≤ len))
    (hd : 0 < len → (IntKind.wrap .u64 (xs 0)).tmod 2 = (d : Int)) : Picks B m d q len cap := by
  refine ⟨(hB.inv B.w (Fr.refl _ _)).1, hc, fun k hk => ?_⟩
  obtain ⟨a, ha, _⟩ := (hB.inv B.w (Fr.refl _ _)).2 k hk
  refine ⟨a, xs k, ha, fun w' hw => ?_, fun h0 => ?_⟩
  · obtain ⟨a', ha', h⟩ := (hB.inv w' hw).2 k hk
    rw [ha] at ha'; injection ha' with ha'; subst ha'; exact h
  · subst h0; exact hd hk
end
end
end Go.Ev
