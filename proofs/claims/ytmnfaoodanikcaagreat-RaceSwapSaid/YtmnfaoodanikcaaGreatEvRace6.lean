/- The function, by classes of its list. -/
import Derived.Test.YtmnfaoodanikcaaGreatEvRace5
namespace Go.Ev
noncomputable section
variable {K : KI}

section
variable {P : Program} {E : Env} {B : Base}

theorem race_ok (hE : EnvOk P E) (hSum : SumOk P E K) (hB : Good K B) {n f : Nat} {r : RC} {fn : Func} (hfn : P.funcs[f]? = some fn) (hbody : fn.body = some r.body) {ti tu ts m d : Nat} (hT : TabTys E ti tu ts)
    {q : Option Addr} {len cap : Nat} (hp : Picks B m d q len cap) {args : List AV} {hp0 : Heap} {res : Res} (h : raceE E n r (tab ti tu ts) m d fn args hp0 B.nx = some res)
    (hR : HR B.ρ B.γ B.own hp0 B.w) {args' : List Value} (ha : VRs B.ρ B.γ args args') : Calls P f ⟨args'⟩ B.w (CallQ B res) := by
  simp only [raceE, ob_some, og_some] at h
  obtain ⟨s, hs, x, hx, s1, h1, y, hy, s2, h2, hdf, s3, h3, z, hz, h⟩ := h
  have h1 := normal?_some h1
  have h2 := normal?_some h2
  subst h1; subst h2
  simp only [argsSt, og_some] at hs
  obtain ⟨hle, hs⟩ := hs
  injection hs with hs; subst hs
  refine calls_of_wp_defers hfn hbody ?_
  have hS0 : StR B B.γ { tm := rowOf args, nt := fn.ntmps, df := [], hp := hp0, nx := B.nx } { tmps := (⟨args'⟩ : Array Value) ++ Array.replicate (fn.ntmps - (⟨args'⟩ : Array Value).size) undef, defers := [] } B.w :=
    ⟨TmR.args ha (ble_iff.1 hle), .nil, hR, hB.fresh, Later.refl _⟩
  refine runSeq_ok hE hSum hB r.pre _ s1 _ _ _ hx hS0 (fun γ1 a1 w1 hS1 => wp_seq ?_)
  refine runSeq_ok hE hSum hB [r.r7] s1 s2 _ _ _ hy hS1 (fun γ2 a2 w2 hS2 => wp_block ?_)
  refine loopE_ok hE hSum hB hT hp h3 (by simpa using hdf) hS2.pure1 (fun γ3 a3 w3 hS3 => ?_)
  simp only [Exit.inBlock, if_true]
  refine wp_mono (run_ok hE hSum n _ _ hz B hB γ3 a3 w3 hS3) fun e a w hq => ?_
  obtain ⟨ae, s4, γ4, rfl, hS4, hex⟩ := hq
  have hih := run_ok hE hSum n
  cases ae <;> simp only [leaveR] at h
  · cases e <;> simp only [ExR] at hex
    exact hih _ _ h B hB γ4 a w s4.nt ⟨hS4.tm, hS4.df, hS4.hp, hS4.fresh, hS4.later⟩ .returning rfl
  · simp at h
  · cases e <;> simp only [ExR] at hex
    exact hih _ _ h B hB γ4 a w s4.nt ⟨hS4.tm, hS4.df, hS4.hp, hS4.fresh, hS4.later⟩ .returning rfl
  · cases e <;> simp only [ExR] at hex
    obtain ⟨v', rfl, hv⟩ := hex
    exact hih _ _ h B hB γ4 a w s4.nt ⟨hS4.tm, hS4.df, hS4.hp, hS4.fresh, hS4.later⟩ _ ⟨v', rfl, hv⟩
end
end
end Go.Ev
