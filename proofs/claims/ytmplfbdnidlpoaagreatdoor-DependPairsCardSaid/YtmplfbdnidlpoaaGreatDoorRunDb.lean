/- DependPairs: its number is known by its class alone. -/
import Derived.Test.YtmplfbdnidlpoaaGreatDoorRunDa
open Go Go.Ev
namespace Go.Proofs.YtmplfbdnidlpoaaGreatDoor
noncomputable section
set_option maxRecDepth 1000000
def isO (k : Nat) : Option AV → Bool
  | some (.opq j) => Nat.beq j k
  | _ => false
def isEight : Option AV → Bool
  | some (.int .u64 (.ofNat j)) => Nat.beq j 8
  | _ => false
def pairFact (k : Nat) (op : Op) (tm : PT AV) : Option AV :=
  match op with
  | .convert s t x => og (Nat.beq s 3 && (Nat.beq t 57 && isO 0 (opnd tm x))) (some (.opq 1))
  | .binOp .rem _ x y _ => og (isO 1 (opnd tm x) && isEight (opnd tm y)) (some (.int .u64 (.ofNat k)))
  | _ => none
def pairK (k : Nat) : KI := fun ρ _ => ∃ n, ρ 0 = .int .i64 n ∧ ρ 1 = .int .u64 (IntKind.wrap .u64 n) ∧ (IntKind.wrap .u64 n).tmod 8 = (k : Int)
def sumA (f : Nat) : Option (List AV → Heap → Nat → Option Res) := bc (sumI f) (some fun args hp nx => og args.isEmpty (some (.ret (.bool true) hp nx))) (Nat.beq f 18)
def envK (k : Nat) : Env := { env0 with sum := sumA, fact := pairFact k }
theorem envK_ok {k : Nat} : EnvOk Tryz.prog (envK k) := ⟨env0_ok.fns, env0_ok.tys, env0_ok.ext, env0_ok.mixed, env0_ok.fields⟩
theorem isO_some {j : Nat} {x : Option AV} (h : isO j x = true) : x = some (.opq j) := by
  unfold isO at h
  split at h
  · rw [beq_iff.1 h]
  · cases h
theorem isEight_some {x : Option AV} (h : isEight x = true) : x = some (.int .u64 8) := by
  unfold isEight at h
  split at h
  · rw [beq_iff.1 h]; rfl
  · cases h
theorem pairFact_ok {k : Nat} {ρ : Nat → Value} {w : World} (hK : pairK k ρ w) : HOk Tryz.prog ρ w (pairFact k) := by
  obtain ⟨n, h0, h1, hk⟩ := hK
  intro γ nt tm a o v hT h
  obtain ⟨dst, op, ty, pos, after, guard⟩ := o
  simp only at h
  have opq : ∀ {j : Nat} {y : Operand}, isO j (opnd tm y) = true → a.eval y = ρ j := by
    intro j y hy
    have := opnd_ok hT (isO_some hy)
    generalize a.eval y = z at this
    cases this; rfl
  unfold pairFact at h
  split at h
  · rename_i s t x
    simp only [og_some, Bool.and_eq_true] at h
    obtain ⟨⟨e1, e2, e3⟩, h⟩ := h
    injection h with h; subst h
    have e1 := beq_iff.1 e1
    have e2 := beq_iff.1 e2
    subst e1; subst e2
    have hy := (opq e3).trans h0
    refine ⟨.int .u64 (IntKind.wrap .u64 n), ?_, by rw [← h1]; exact .opq 1⟩
    simp [execOp, hy, convert, Go.run_underlying Tryz.underlying3, Go.run_underlying Tryz.underlying57, Conv.intToInt]
  · rename_i t x y yt
    simp only [og_some, Bool.and_eq_true] at h
    obtain ⟨⟨e1, e2⟩, h⟩ := h
    injection h with h; subst h
    have hx := (opq e1).trans h1
    have hy : a.eval y = .int .u64 8 := by
      have := opnd_ok hT (isEight_some e2)
      generalize a.eval y = z at this
      cases this; rfl
    refine ⟨.int .u64 k, ?_, .int _ _⟩
    simp [execOp, hx, hy, eqGuard, binOp, Op.intDiv, hk]
  · cases h
theorem envK_sum {k : Nat} : SumOk Tryz.prog (envK k) (pairK k) := by
  refine ⟨?_, fun ρ w hK => pairFact_ok hK⟩
  intro f g hg B hB args hp r hr hR args' ha
  simp only [envK, sumA, bc_eq] at hg
  split at hg
  · rename_i h; have h := beq_iff.1 h; subst h
    injection hg with hg; subst hg
    simp only [og_some] at hr
    obtain ⟨he, hr⟩ := hr
    injection hr with hr; subst hr
    have hargs : args = [] := by simpa using he
    subst hargs
    cases ha
    have ht := awake_t
    rw [runF_fun] at ht
    exact sum_true envI_ok envI_sum ht B hB hR
  · exact sumI_ok f g hg B hB args hp r hr hR args' ha
end
end Go.Proofs.YtmplfbdnidlpoaaGreatDoor
