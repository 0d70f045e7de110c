/- The environment with summaries of awake and of race. -/
import Derived.Test.YtmnfaoodanikcaaGreatRunBase
import Derived.Test.YtmnfaoodanikcaaGreatEvRace6
open Go.Ev
namespace Go.Proofs.YtmnfaoodanikcaaGreat
set_option maxRecDepth 1000000
theorem sum0_ok {K : KI} : SumOk Tryz.prog env0 K := fun f g h => by simp [env0] at h
noncomputable def rc : RC := (Tryz.f9.body.bind (rcOf 20)).getD ⟨[], .skip, 0, 0, #[], .func 0, 0, .skip, .skip, .func 0, 0, #[], 0, #[], .skip⟩
theorem rc_ok : Tryz.f9.body = some rc.body := by kernel_rfl
noncomputable def envR (m d : Nat) : Env := { env0 with sum := fun f => bc (bc (bc none (some (memoSum baseV baseH0 baseN)) (Nat.beq f 10)) (some fun args hp nx => raceE env0 1000000 rc (tab 3 53 22) m d Tryz.f9 args hp nx) (Nat.beq f 9)) (some fun args hp nx => og args.isEmpty (some (.ret (.bool true) hp nx))) (Nat.beq f 8) }
theorem tabTys : TabTys env0 3 53 22 := ⟨⟨_, rfl, rfl⟩, ⟨_, rfl, rfl, rfl⟩, ⟨_, rfl, rfl⟩⟩
theorem envR_ok {m d : Nat} : EnvOk Tryz.prog (envR m d) := ⟨env0_ok.fns, env0_ok.tys, env0_ok.ext, env0_ok.mixed, env0_ok.fields⟩
end Go.Proofs.YtmnfaoodanikcaaGreat
