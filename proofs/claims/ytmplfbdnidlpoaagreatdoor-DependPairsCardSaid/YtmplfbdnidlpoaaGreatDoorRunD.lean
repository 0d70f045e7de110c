/- DependPairs: the environment of each class. -/
import Derived.Test.YtmplfbdnidlpoaaGreatDoorTabD
import Derived.Test.YtmplfbdnidlpoaaGreatDoorEvIns2
import Derived.Test.YtmplfbdnidlpoaaGreatDoorEvFast2
open Go Go.Ev
namespace Go.Proofs.YtmplfbdnidlpoaaGreatDoor
noncomputable section
set_option maxRecDepth 1000000
theorem sum0_ok {K : KI} : SumOk Tryz.prog env0 K := ⟨fun f g h => by simp [env0] at h, fun ρ w _ γ nt tm a o v _ h => by simp [env0] at h⟩
def ic0 : IC := ⟨[], 0, #[], .func 0, .skip, .skip⟩
def ic175 : IC := (Tryz.f175.body.bind (icOf 20)).getD ic0
def ic177 : IC := (Tryz.f177.body.bind (icOf 20)).getD ic0
def ic200 : IC := (Tryz.f200.body.bind (icOf 20)).getD ic0
theorem ic175_ok : Tryz.f175.body = some ic175.body := by kernel_rfl
theorem ic177_ok : Tryz.f177.body = some ic177.body := by kernel_rfl
theorem ic200_ok : Tryz.f200.body = some ic200.body := by kernel_rfl
def cc175 : CapC := ⟨29, 22, 30, 28, 31⟩
def cc177 : CapC := ⟨29, 23, 30, 28, 31⟩
def cc200 : CapC := ⟨29, 64, 30, 28, 31⟩
theorem cc175_ok : capOf ic175.ops8 = some cc175 := by kernel_rfl
theorem cc177_ok : capOf ic177.ops8 = some cc177 := by kernel_rfl
theorem cc200_ok : capOf ic200.ops8 = some cc200 := by kernel_rfl

/-- with the inserts -/
def sumI (f : Nat) : Option (List AV → Heap → Nat → Option Res) :=
  bc (bc (bc none (some (insSum env0 (runF env0 100000) 200 ic200 cc200 Tryz.f200)) (Nat.beq f 200)) (some (insSum env0 (runF env0 100000) 177 ic177 cc177 Tryz.f177)) (Nat.beq f 177)) (some (insSum env0 (runF env0 100000) 175 ic175 cc175 Tryz.f175)) (Nat.beq f 175)
theorem runF_fun (E : Env) (n : Nat) : runF E n = run E n := funext (runF_eq E n)
theorem sumI_ok {K : KI} : SumsOk Tryz.prog { env0 with sum := sumI } K := by
  intro f g hg B hB args hp r hr hR args' ha
  simp only [sumI, bc_eq] at hg
  split at hg
  · rename_i h; have h := beq_iff.1 h; subst h
    injection hg with hg; subst hg
    rw [runF_fun] at hr
    exact insSum_ok env0_ok sum0_ok hB Tryz.func175 ic175_ok cc175_ok (si := ty22) (by kernel_rfl) (e0 := 66) rfl hr hR ha
  · split at hg
    · rename_i h; have h := beq_iff.1 h; subst h
      injection hg with hg; subst hg
      rw [runF_fun] at hr
      exact insSum_ok env0_ok sum0_ok hB Tryz.func177 ic177_ok cc177_ok (si := ty23) (by kernel_rfl) (e0 := 95) rfl hr hR ha
    · split at hg
      · rename_i h; have h := beq_iff.1 h; subst h
        injection hg with hg; subst hg
        rw [runF_fun] at hr
        exact insSum_ok env0_ok sum0_ok hB Tryz.func200 ic200_ok cc200_ok (si := ty64) (by kernel_rfl) (e0 := 97) rfl hr hR ha
      · cases hg
def envI : Env := { env0 with sum := sumI }
theorem envI_ok : EnvOk Tryz.prog envI := ⟨env0_ok.fns, env0_ok.tys, env0_ok.ext, env0_ok.mixed, env0_ok.fields⟩
theorem envI_sum {K : KI} : SumOk Tryz.prog envI K := ⟨sumI_ok, fun ρ w _ γ nt tm a o v _ h => by simp [envI, env0] at h⟩
end
end Go.Proofs.YtmplfbdnidlpoaaGreatDoor
