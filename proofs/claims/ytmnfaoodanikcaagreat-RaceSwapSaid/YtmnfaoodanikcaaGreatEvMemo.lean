/- What a function of no arguments answers from nothing, kept. -/
import Derived.Test.YtmnfaoodanikcaaGreatEvSum
import Derived.Test.YtmnfaoodanikcaaGreatEvShift
namespace Go.Ev
noncomputable section
variable {K : KI}

def memoChk (r : Option Res) (v : AV) (hp : Heap) (nx : Nat) : Bool := match r with
  | some (.ret v' hp' nx') => sameAV v v' && (subHeap hp hp' && Nat.beq nx nx')
  | _ => false

def isNilHp : Heap → Bool
  | .nil => true
  | _ => false

def memoSum (v : AV) (hp : Heap) (nx : Nat) (args : List AV) (hp0 : Heap) (nx0 : Nat) : Option Res := og args.isEmpty (og (Nat.beq nx0 0) (og (isNilHp hp0) (some (.ret v hp nx))))

section
variable {P : Program} {E : Env}

theorem memo_ok (hE : EnvOk P E) (hSum : SumOk P E K) {n f : Nat} {v : AV} {hp : Heap} {nx : Nat} (h : memoChk (run E n (.call f [] .nil 0)) v hp nx = true) (B : Base) (hB : Good K B) {args : List AV} {hp0 : Heap} {r : Res}
    (hr : memoSum v hp nx args hp0 B.nx = some r) (hR : HR B.ρ B.γ B.own hp0 B.w) {args' : List Value} (ha : VRs B.ρ B.γ args args') : Calls P f ⟨args'⟩ B.w (CallQ B r) := by
  simp only [memoSum, og_some] at hr
  obtain ⟨h1, h2, h3, hr⟩ := hr
  injection hr with hr; subst hr
  have h1 : args = [] := by simpa using h1
  subst h1
  cases ha
  have h2 := beq_iff.1 h2
  have h3 : hp0 = .nil := by cases hp0 <;> simp [isNilHp] at h3 ⊢
  subst h3
  unfold memoChk at h
  split at h
  · rename_i v' hp' nx' hrun
    simp only [Bool.and_eq_true] at h
    obtain ⟨k1, k2, k3⟩ := h
    have k1 := sameAV_eq k1
    have k3 := beq_iff.1 k3
    subst k1; subst k3
    refine (run_ok hE hSum n _ _ hrun B hB h2 hR [] .nil).mono fun e w' he => ?_
    cases e with
    | outgrown => exact he.elim
    | panicked ch => obtain ⟨_, _, _, _, hh, _⟩ := he; cases hh
    | returned u =>
      obtain ⟨v1, hp1, nx1, γ', hh, e1, e2, e3, e4⟩ := he
      injection hh with x1 x2 x3
      subst x1; subst x2; subst x3
      exact ⟨_, _, _, γ', rfl, e1, e2.weaken (fun b o hb => subHeap_ok k2 b o hb), e3, e4⟩
  · simp at h
end
end
end Go.Ev
