import Derived.Test.YtmnfaoodanikcaaGreatRunA
open Go.Ev
namespace Go.Proofs.YtmnfaoodanikcaaGreat

theorem sumR_ok {q : Option Addr} {len cap m d : Nat} {xs : Nat → Int} (hc : (m = 0 ∧ len = 0) ∨ (m = 1 ∧ len = 1) ∨ (m = 2 ∧ 2 ≤ len)) (hd : 0 < len → (IntKind.wrap .u64 (xs 0)).tmod 2 = (d : Int)) :
    SumOk Tryz.prog (envR m d) (picksK q len cap xs) := by
  intro f g hg B hB args hp r hr hR args' ha
  simp only [envR, bc_eq] at hg
  split at hg
  · rename_i h8
    have h8 := beq_iff.1 h8
    subst h8
    injection hg with hg; subst hg
    simp only [og_some] at hr
    obtain ⟨he, hr⟩ := hr
    injection hr with hr; subst hr
    have hargs : args = [] := by simpa using he
    subst hargs
    cases ha
    exact sum_true env0_ok sum0_ok awake_t B hB hR
  · split at hg
    · rename_i h9
      have h9 := beq_iff.1 h9
      subst h9
      injection hg with hg; subst hg
      exact race_ok env0_ok sum0_ok hB Tryz.func9 rc_ok tabTys (Picks.of_good hB hc hd) hr hR ha
    · split at hg
      · rename_i h10
        have h10 := beq_iff.1 h10
        subst h10
        injection hg with hg; subst hg
        exact memo_ok env0_ok sum0_ok base_t B hB hr hR ha
      · cases hg
end Go.Proofs.YtmnfaoodanikcaaGreat
