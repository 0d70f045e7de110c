/- The loop, by classes. -/
import Derived.Test.YtmnfaoodanikcaaGreatEvRace4
namespace Go.Ev
noncomputable section
variable {K : KI}

section
variable {P : Program} {E : Env} {B : Base} {γ : G} {s : St} {a : Act} {w : World}

theorem StR.index (h : StR B γ s a w) {v : AV} {v' : Value} {t : Nat} (h1 : a.tmps[t]? = some v') (h2 : VR B.ρ γ v v') : StR B γ { s with tm := s.tm.put t v } a w := by
  refine ⟨⟨h.tm.size, fun u x hu => ?_⟩, h.df, h.hp, h.fresh, h.later⟩
  rw [PT.get_put] at hu
  split at hu
  · rename_i hut; subst hut
    injection hu with hu; subst hu
    exact ⟨v', h1, h2⟩
  · exact h.tm.get u x hu

theorem pure1_tm {s : St} {t : Nat} {v : AV} (h : (pure1 s).tm.get t = some v) : clean v = true := purgeTm_clean h
theorem pure1_hp {s : St} {b : Nat} {o : AObj} (h : (pure1 s).hp.get b = some o) : cleanObj o = true := purge_clean h

theorem StR.noI (h : StR B γ s a w) : StR B γ (Go.Ev.noI s) a w :=
  h.less (fun t v ht => by
    have h1 := get_purgeTm ht
    simp only [get_pickTm] at h1
    split at h1
    · exact h1
    · simp at h1) rfl rfl (fun _ _ => get_purge) rfl

theorem loopE_ok (hE : EnvOk P E) (hSum : SumOk P E K) (hB : Good K B) {n : Nat} {r : RC} {ti tu ts m d : Nat} (hT : TabTys E ti tu ts) {q : Option Addr} {len cap : Nat} (hp : Picks B m d q len cap)
    {s2 s3 : St} (h : loopE E n r (tab ti tu ts) m d (pure1 s2) = some s3) (hdf : s2.df = []) (hS : StR B γ (pure1 s2) a w) {Q : Exit → Act → World → Prop}
    (hQ : ∀ γ' a' w', StR B γ' s3 a' w' → Q (.exit r.i0) a' w') : (Code.loop r.round).wp P Q a w := by
  have hn := fun k (hk : k ≤ 100) => hp.names hE hT k hk
  let ρ : Nat → Nat → Value := fun k => if hk : k ≤ 100 then Classical.choose (hn k hk) else B.ρ
  have hρ : ∀ k (hk : k ≤ 100), ρ k = Classical.choose (hn k hk) := fun k hk => dif_pos hk
  have hspec : ∀ k, k ≤ 100 → ρ k 0 = B.ρ 0 ∧ ρ k 1 = .int .i64 k ∧ ρ k 3 = .int .i64 (k + 1) ∧ ∀ (ki : Option Nat) (c1 c2 : Bool) (dd : Option Nat), (ki = none ∨ ki = some k) → c1 = decide (k < len) →
      c2 = decide (k < 100) → (dd = none ∨ (dd = some d ∧ k = 0 ∧ k < len)) → ∀ w', Fr B.own B.w w' → HOk P (ρ k) w' (tab ti tu ts ki c1 c2 dd) := fun k hk => by
    rw [hρ k hk]; exact Classical.choose_spec (hn k hk)
  have hBk : ∀ k, k ≤ 100 → Good K (B.named (ρ k)) := fun k hk => ⟨hB.fresh, hB.up, fun w' hw => by
    have h1 : (B.named (ρ k)).ρ 0 = B.ρ 0 := (hspec k hk).1
    rw [h1]; exact hB.inv w' hw⟩
  -- from one naming to another
  have ren : ∀ {ρ₁ ρ₂ : Nat → Value} {s γ a w}, ρ₁ 0 = ρ₂ 0 → s.df = [] → StR (B.named ρ₁) γ (pure1 s) a w → StR (B.named ρ₂) γ (pure1 s) a w := fun h1 hd hS => StR.rename h1 (fun _ _ => pure1_tm) (fun _ _ => pure1_hp) hd hS
  have h0 : StR (B.named (ρ 0)) γ (pure1 s2) a w := ren (ρ₁ := B.ρ) (hspec 0 (by omega)).1.symm hdf hS
  rcases hp.cls with ⟨rfl, hlen⟩ | ⟨rfl, hlen⟩ | ⟨rfl, hlen⟩
  · simp only [loopE, og_some] at h
    obtain ⟨he, h⟩ := h
    injection h with h; subst h
    refine wp_loop_count (N := 0) (J := fun _ a w => ∃ γ, StR (B.named (ρ 0)) γ (pure1 s2) a w) (fun j hj => absurd hj (by omega)) ?_ ⟨γ, h0⟩
    rintro a w ⟨γ, hS⟩
    refine ends_ok (B := B.named (ρ 0)) hE ((hspec 0 (by omega)).2.2.2 _ _ true none (.inr rfl) (by simp [hlen]) (by simp) (.inl rfl) w hS.later.fr) he hS fun a' hS' => hQ γ a' w ?_
    exact ren (ρ₂ := B.ρ) (hspec 0 (by omega)).1 hdf hS'
  · simp only [loopE, ob_some, og_some, Bool.and_eq_true] at h
    obtain ⟨s1, hpass, ⟨hd1, he⟩, h⟩ := h
    injection h with h; subst h
    have hd1 : s1.df = [] := by simpa using hd1
    refine wp_loop_count (N := 1) (J := fun j a w => if j = 0 then ∃ γ, StR (B.named (ρ 0)) γ (pure1 s2) a w else ∃ γ, StR (B.named (ρ 1)) γ (pure1 s1) a w) ?_ ?_ ⟨γ, h0⟩
    · intro j hj a w hJ
      have hj : j = 0 := by omega
      subst hj
      obtain ⟨γ, hS⟩ := hJ
      refine pass_ok (B := B.named (ρ 0)) hE hSum (hBk 0 (by omega)) (fun w' hw => (hspec 0 (by omega)).2.2.2 _ _ true _ (.inr rfl) (by simp [hlen]) (by simp) (.inr ⟨rfl, rfl, by omega⟩) w' hw) hpass hS fun γ' a' w' hS' => ?_
      exact ⟨γ', ren ((hspec 0 (by omega)).1.trans (hspec 1 (by omega)).1.symm) hd1 hS'.pure1⟩
    · rintro a w ⟨γ, hS⟩
      refine ends_ok (B := B.named (ρ 1)) hE ((hspec 1 (by omega)).2.2.2 _ _ true none (.inr rfl) (by simp [hlen]) (by simp) (.inl rfl) w hS.later.fr) he hS fun a' hS' => hQ γ a' w ?_
      exact ren (ρ₂ := B.ρ) (hspec 1 (by omega)).1 hd1 hS'
  · simp only [loopE, ob_some, og_some, Bool.and_eq_true] at h
    obtain ⟨s1, hpass, hd1, s2b, hpass2, ⟨⟨⟨htwo, hd2⟩, hid⟩, he1, he2, he3⟩, h⟩ := h
    injection h with h; subst h
    have hd1 : s1.df = [] := by simpa using hd1
    have hd2 : s2b.df = [] := by simpa using hd2
    have hZ15 : ∀ t v, (Go.Ev.noI s2b).tm.get t = some v → t ≠ slotI := by
      intro t v ht
      have h1 := get_purgeTm ht
      simp only [get_pickTm] at h1
      split at h1
      · rename_i hm; rw [List.mem_range] at hm; omega
      · simp at h1
    have unI : ∀ {B : Base} {γ a w}, StR B γ (withI (Go.Ev.noI s2b)) a w → StR B γ (Go.Ev.noI s2b) a w := fun hS => hS.less (fun t v ht => by
      simp only [withI, PT.get_put]
      rw [if_neg (fun hh => hZ15 t v ht hh.symm)]; exact ht) rfl rfl (fun _ _ h => h) rfl
    refine wp_loop_count (N := min len 100) (J := fun j a w => if j = 0 then ∃ γ, StR (B.named (ρ 0)) γ (pure1 s2) a w else if j = 1 then ∃ γ, StR (B.named (ρ 1)) γ (pure1 s1) a w
      else ∃ γ, StR (B.named (ρ j)) γ (withI (Go.Ev.noI s2b)) a w) ?_ ?_ ⟨γ, h0⟩
    · intro j hj a w hJ
      have hj1 : j < len := by omega
      have hj2 : j < 100 := by omega
      by_cases hj0 : j = 0
      · subst hj0
        obtain ⟨γ, hS⟩ := hJ
        refine pass_ok (B := B.named (ρ 0)) hE hSum (hBk 0 (by omega)) (fun w' hw => (hspec 0 (by omega)).2.2.2 _ _ true _ (.inr rfl) (by simp; omega) (by simp) (.inr ⟨rfl, rfl, by omega⟩) w' hw) hpass hS fun γ' a' w' hS' => ?_
        exact ⟨γ', ren ((hspec 0 (by omega)).1.trans (hspec 1 (by omega)).1.symm) hd1 hS'.pure1⟩
      · by_cases hj1' : j = 1
        · subst hj1'
          obtain ⟨γ, hS⟩ := hJ
          refine pass_ok (B := B.named (ρ 1)) hE hSum (hBk 1 (by omega)) (fun w' hw => (hspec 1 (by omega)).2.2.2 _ _ true _ (.inr rfl) (by simp; omega) (by simp) (.inl rfl) w' hw) hpass2 hS fun γ' a' w' hS' => ?_
          have hZ : StR (B.named (ρ 2)) γ' (Go.Ev.noI s2b) a' w' := ren ((hspec 1 (by omega)).1.trans (hspec 2 (by omega)).1.symm) (s := { s2b with tm := pickTm s2b.tm (List.range slotI) }) hd2 hS'.noI
          have h15 : s2b.tm.get slotI = some (.int .i64 2) := by
            unfold isTwo at htwo
            split at htwo
            · rename_i j hj; rw [hj, beq_iff.1 htwo]; rfl
            · simp at htwo
          obtain ⟨v', k1, k2⟩ := hS'.tm.get _ _ h15
          cases k2
          refine ⟨γ', hZ.index k1 ?_⟩
          have : (.int .i64 2 : Value) = ρ 2 1 := (hspec 2 (by omega)).2.1.symm
          rw [this]; exact .opq 1
        · rw [if_neg hj0, if_neg hj1'] at hJ
          obtain ⟨γ, hS⟩ := hJ
          unfold idles at hid
          split at hid
          · rename_i s' hpi
            simp only [Bool.and_eq_true] at hid
            obtain ⟨i1, _, _, i4, i5, i6, i7, i8⟩ := hid
            have hS1 : StR ((B.named (ρ j)).at γ (withI (Go.Ev.noI s2b)).nx w) γ (withI (Go.Ev.noI s2b)) a w := ⟨hS.tm, hS.df, hS.hp, hS.fresh, Later.refl _⟩
            refine pass_ok (B := (B.named (ρ j)).at γ (withI (Go.Ev.noI s2b)).nx w) hE hSum (hS.good (hBk j (by omega))) (fun w' hw => (hspec j (by omega)).2.2.2 _ _ true _ (.inl rfl) (by simp; omega) (by simp; omega) (.inl rfl) w' (hS.later.fr.trans hw)) hpi hS1
              fun γ' a' w' hS' => ?_
            rw [if_neg (by omega), if_neg (by omega)]
            have hk : StR (B.named (ρ j)) γ' s' a' w' := ⟨hS'.tm, hS'.df, hS'.hp, hS'.fresh, hS.later.at hS'.later⟩
            have hZ' : StR (B.named (ρ (j + 1))) γ (Go.Ev.noI s2b) a' w' := StR.shift (ρ₀ := ρ j) (ρ₁ := ρ j) hS'.later.ext ((hspec j (by omega)).1.trans (hspec (j + 1) (by omega)).1.symm)
              ((hspec j (by omega)).1.trans (hspec (j + 1) (by omega)).1.symm) (fun _ _ => pure1_tm) (fun t v ht => by
                have h1 := get_purgeTm (subTm_ok i4 t v ht)
                simp only [get_pickTm] at h1
                split at h1
                · exact h1
                · simp at h1) (fun _ _ => pure1_hp) (fun b o hb => subHeap_ok i5 b o hb) (beq_iff.1 i6) (by simpa using i7) (by simpa using i8) (unI hS) hk
            obtain ⟨v', k1, k2⟩ := hk.tm.get _ _ (isOpq_some i1)
            cases k2
            refine ⟨γ, hZ'.index k1 ?_⟩
            have h3 : (B.named (ρ j)).ρ 3 = ρ (j + 1) 1 := by
              have e1 := (hspec j (by omega)).2.2.1
              have e2 := (hspec (j + 1) (by omega)).2.1
              show ρ j 3 = _
              rw [e1, e2]; rfl
            rw [h3]; exact .opq 1
          · simp at hid
    · intro a w hJ
      have hN : ¬ (min len 100 = 0) ∧ ¬ (min len 100 = 1) := by omega
      simp only [if_neg hN.1, if_neg hN.2] at hJ
      obtain ⟨γ, hS⟩ := hJ
      have hle : min len 100 ≤ 100 := by omega
      have fin : ∀ a', StR (B.named (ρ (min len 100))) γ (endS r (withI (Go.Ev.noI s2b))) a' w → Q (.exit r.i0) a' w := fun a' hS' => hQ γ a' w (ren (ρ₂ := B.ρ) (hspec _ hle).1 hd2 hS')
      by_cases h1 : len ≤ 100
      · have hm : min len 100 = len := by omega
        by_cases h2 : len < 100
        · exact ends_ok (B := B.named (ρ (min len 100))) hE ((hspec _ hle).2.2.2 _ _ true none (.inl rfl) (by simp; omega) (by simp; omega) (.inl rfl) w hS.later.fr) he2 hS fin
        · exact ends_ok (B := B.named (ρ (min len 100))) hE ((hspec _ hle).2.2.2 _ _ false none (.inl rfl) (by simp; omega) (by simp; omega) (.inl rfl) w hS.later.fr) he1 hS fin
      · exact ends_ok (B := B.named (ρ (min len 100))) hE ((hspec _ hle).2.2.2 _ _ false none (.inl rfl) (by simp; omega) (by simp; omega) (.inl rfl) w hS.later.fr) he3 hS fin
end
end
end Go.Ev
