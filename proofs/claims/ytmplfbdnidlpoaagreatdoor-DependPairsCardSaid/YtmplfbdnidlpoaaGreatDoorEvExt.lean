/- Functions without a body, of the library. -/
import Derived.Test.YtmplfbdnidlpoaaGreatDoorEvEnv
import Derived.Lib.Bytealg
import Derived.Lib.Overlaps
import Derived.Laws.Externs
namespace Go.Ev
noncomputable section

/-- what the table of such functions is to say -/
def ExtOk (P : Program) (f k : Nat) : Prop := ∀ (ρ : Nat → Value) (γ : G) (own : Nat → Prop) (hp : Heap) args v args' w, HR ρ γ own hp w → extA hp k args = some v → VRs ρ γ args args' →
  ∃ v', (callFunc f ⟨args'⟩).run P w = .ok (.value v') w ∧ VR ρ γ v v'

theorem compare_eq : ∀ (s t : List Nat), (∀ x ∈ s, x < 256) → (∀ x ∈ t, x < 256) → Lib.compareBytes (s.map UInt8.ofNat) (t.map UInt8.ofNat) = bc (bc 1 0 (eqBytes s t)) (-1) (bytesLt s t)
  | [], [], _, _ => rfl
  | [], _ :: _, _, _ => rfl
  | _ :: _, [], _, _ => rfl
  | a :: s, b :: t, hs, ht => by
    have ha : a < 256 := hs a (by simp)
    have hb : b < 256 := ht b (by simp)
    have ih := compare_eq s t (fun x hx => hs x (by simp [hx])) (fun x hx => ht x (by simp [hx]))
    have hlt : (UInt8.ofNat a < UInt8.ofNat b) ↔ a < b := by
      rw [UInt8.lt_iff_toNat_lt]; simp [Nat.mod_eq_of_lt ha, Nat.mod_eq_of_lt hb]
    have hgt : (UInt8.ofNat b < UInt8.ofNat a) ↔ b < a := by
      rw [UInt8.lt_iff_toNat_lt]; simp [Nat.mod_eq_of_lt ha, Nat.mod_eq_of_lt hb]
    simp only [List.map_cons, Lib.compareBytes, hlt, hgt, ih, eqBytes, bytesLt, bc_eq, ble_iff, beq_iff]
    by_cases h1 : a < b
    · have h3 : Nat.add a 1 ≤ b := h1
      simp [h1, h3]
    · have h3 : ¬ Nat.add a 1 ≤ b := h1
      by_cases h2 : b < a
      · have h4 : ¬ a = b := by omega
        simp [h1, h2, h3, h4]
      · have h4 : a = b := by omega
        subst h4
        have h5 : ¬ a + 1 ≤ a := by omega
        simp [h5]

section
variable {P : Program} {f : Nat} {fn : Func}
theorem ext_cmp (hf : P.funcs[f]? = some fn) (hname : (fn.name == "runtime.NumGoroutine") = false) (hb : fn.body.isNone = true) (hn : Extern.findNext fn = none) (he : Extern.find fn = some Extern.BytealgCompare.compare) : ExtOk P f 0 := by
  intro ρ γ own hp args v args' w _ h ha
  unfold extA at h
  split at h
  · rename_i h0; cases h0
  · rename_i s t _
    injection h with h; subst h
    cases ha
    rename_i v1 vs1 hv1 ha
    cases ha
    rename_i v2 vs2 hv2 ha
    cases ha
    cases hv1
    cases hv2
    rename_i h1 h2
    refine ⟨_, ?_, .int _ _⟩
    rw [run_callFunc_extern hf hname hb hn he, show (⟨[Value.string (toBA s), Value.string (toBA t)]⟩ : Array Value) = #[Value.string (toBA s), Value.string (toBA t)] from rfl, Lib.run_compareString]
    simp only [Result.andThen_ok, toBA]
    rw [compare_eq s t h1 h2]
  · cases h

theorem ext_overlaps {ts tr e : TypeId} (hf : P.funcs[f]? = some fn) (hname : (fn.name == "runtime.NumGoroutine") = false) (hb : fn.body.isNone = true) (hn : Extern.findNext fn = none)
    (he : Extern.find fn = some (Extern.SlicesOverlaps.overlaps #[ts, ts] #[tr])) (hts : P.underlying ts = some (.slice e)) {size : Nat} (hz : ∀ w, (Go.sizeOf e).run P w = .ok size w) : ExtOk P f 1 := by
  intro ρ γ own hp args v args' w hR h ha
  unfold extA at h
  split at h
  · rename_i x y _
    simp only [ob_some, og_some] at h
    obtain ⟨a, hxa, b, hyb, hne, oa, hoa, ⟨ta, za, na⟩, hca, o, ho, ⟨t, z, n⟩, hc, hn1, h⟩ := h
    injection h with h; subst h
    have hne : a ≠ b := fun hh => by rw [hh] at hne; simp at hne
    have hn1 : 1 ≤ n := ble_iff.1 hn1
    cases oa <;> simp [AObj.cells?] at hca
    cases o <;> simp [AObj.cells?] at hc
    obtain ⟨rfl, rfl, rfl⟩ := hca
    obtain ⟨rfl, rfl, rfl⟩ := hc
    obtain ⟨ga, oa', p1, p2, p3, p4⟩ := hR.obj a _ hoa
    obtain ⟨gb, ob', q1, q2, q3, q4⟩ := hR.obj b _ ho
    cases oa' <;> simp only [OR] at p4
    cases ob' <;> simp only [OR] at q4
    rename_i ca ea fa cb eb fb
    have hblk : ga.blk ≠ gb.blk := fun hh => hne (hR.inj a b _ _ _ _ hoa ho p1 q1 hh)
    cases ha
    rename_i v1 vs1 hv1 ha
    cases ha
    rename_i v2 vs2 hv2 ha
    cases ha
    have sl : ∀ {x : AV} {v' : Value} {b : Nat} {g : Blk}, VR ρ γ x v' → seqBlk x = some b → γ b = some g → ∃ o l c, v' = .slice (some ⟨g.blk, o, none⟩) l c := by
      intro x v' b g hv hs hg
      cases hv <;> simp [seqBlk] at hs
      · subst hs
        rename_i hg' _ _
        rw [hg] at hg'; injection hg' with hg'; subst hg'
        exact ⟨_, _, _, rfl⟩
      · subst hs
        rename_i hg' _ _ _
        rw [hg] at hg'; injection hg' with hg'; subst hg'
        exact ⟨_, _, _, rfl⟩
    obtain ⟨o1, l1, c1, rfl⟩ := sl hv1 hxa p1
    obtain ⟨o2, l2, c2, rfl⟩ := sl hv2 hyb q1
    refine ⟨.bool false, ?_, .bool false⟩
    have nf : ∀ i, w.frozen? ⟨ga.blk, i, none⟩ = false := by
      intro i
      simp only [World.frozen?, p3]
      have := p4.2.2.1 i
      rw [Bool.eq_false_iff]; intro hh; simp at hh; exact this hh
    rw [run_callFunc_extern hf hname hb hn he, show (⟨[Value.slice (some ⟨ga.blk, o1, none⟩) l1 c1, Value.slice (some ⟨gb.blk, o2, none⟩) l2 c2]⟩ : Array Value) = #[Value.slice (some ⟨ga.blk, o1, none⟩) l1 c1, Value.slice (some ⟨gb.blk, o2, none⟩) l2 c2] from rfl,
      Lib.run_overlaps_apart w ts tr e hts size hz ⟨ga.blk, o1, none⟩ ⟨gb.blk, o2, none⟩ l1 c1 l2 c2 hblk ea eb ca.size cb.size (by simp [World.shape?, p3]) (by simp [World.shape?, q3]) (by omega) (nf _) (nf _)]
    rfl
  · rename_i h0; cases h0
  · cases h
end
end
end Go.Ev
