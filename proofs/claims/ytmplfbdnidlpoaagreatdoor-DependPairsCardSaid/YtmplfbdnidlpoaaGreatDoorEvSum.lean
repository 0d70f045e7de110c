/- Summaries: a function of no arguments that answers true and leaves what was. -/
import Derived.Test.YtmplfbdnidlpoaaGreatDoorEvEnv
namespace Go.Ev
noncomputable section
variable {K : KI}

def isTrue (r : Option Res) : Bool := match r with
  | some (.ret (.bool b) _ _) => b
  | _ => false
theorem isTrue_ok {r : Option Res} (h : isTrue r = true) : ∃ hp nx, r = some (.ret (.bool true) hp nx) := by
  unfold isTrue at h
  split at h
  · subst h; exact ⟨_, _, rfl⟩
  · simp at h

section
variable {P : Program} {E : Env}

/-- what a run from nothing says of any world -/
theorem calls_true (hE : EnvOk P E) (hSum : SumOk P E K) {n f : Nat} {args : List AV} (h : isTrue (run E n (.call f args .nil 0)) = true) (ρ : Nat → Value) {args' : List Value} (ha : VRs ρ (fun _ => none) args args') (w : World)
    (hK : ∀ w', Fr (fun k => w.heap.size ≤ k) w w' → K ρ w') : Calls P f ⟨args'⟩ w fun e w' => e = .returned (.bool true) ∧ Fr (fun k => w.heap.size ≤ k) w w' := by
  obtain ⟨hp0, nx0, hr⟩ := isTrue_ok h
  have hg : Good K { ρ := ρ, γ := fun _ => none, own := fun k => w.heap.size ≤ k, nx := 0, w := w } := ⟨fun _ _ => rfl, fun k hk => hk, hK⟩
  have hR : HR ρ (fun _ => none) (fun k => w.heap.size ≤ k) .nil w := ⟨fun b o hb => by simp at hb, fun b _ o _ _ _ hb => by simp at hb⟩
  refine (run_ok hE hSum n _ _ hr _ hg rfl hR args' ha).mono fun e w' he => ?_
  cases e with
  | outgrown => exact he.elim
  | panicked ch => obtain ⟨_, _, _, _, hh, _⟩ := he; cases hh
  | returned v' =>
    obtain ⟨v, hp, nx, γ', hh, hv, _, _, hl⟩ := he
    injection hh with e1 _ _
    subst e1
    cases hv
    exact ⟨rfl, hl.fr⟩

theorem sum_true (hE : EnvOk P E) (hSum : SumOk P E fun _ _ => True) {n f : Nat} (h : isTrue (run E n (.call f [] .nil 0)) = true) (B : Base) (hB : Good K B) {hp : Heap} (hR : HR B.ρ B.γ B.own hp B.w) :
    Calls P f #[] B.w (CallQ B (.ret (.bool true) hp B.nx)) := by
  refine (calls_true hE hSum h B.ρ .nil B.w fun _ _ => trivial).mono fun e w' he => ?_
  obtain ⟨rfl, hfr⟩ := he
  refine ⟨.bool true, hp, B.nx, B.γ, rfl, .bool _, hR.stay fun b o g hb hg => hfr.block _ (hR.lt hb hg) (fun hh => ?_), hB.fresh, Ext.refl _, Old.refl _ _, Nat.le_refl _, hfr.mono fun i hi hh => ?_⟩
  · have := hR.lt hb hg; omega
  · omega
end
end
end Go.Ev
