/- Regions whose order is open: the plan goes on; memory is settled. -/
import Derived.Test.YtmplfbdnidlpoaaGreatDoorEvDraw
namespace Go.Ev
noncomputable section

theorem putD_some {s s' : St} {d : Option Nat} {v : AV} (h : putD s d v = some s') :
    s'.nt = s.nt ∧ s'.df = s.df ∧ s'.hp = s.hp ∧ s'.nx = s.nx ∧ (∀ t, d = some t → s'.tm.get t = some v ∧ t < s.nt) ∧ ∀ t, d ≠ some t → s'.tm.get t = s.tm.get t := by
  cases d with
  | none => simp [putD] at h; subst h; exact ⟨rfl, rfl, rfl, rfl, by simp, fun _ _ => rfl⟩
  | some d =>
    simp only [putD, og_some] at h
    obtain ⟨hle, h⟩ := h
    injection h with h; subst h
    have hle := ble_iff.1 hle
    simp only [Nat.add_eq] at hle
    refine ⟨rfl, rfl, rfl, rfl, fun t ht => ?_, fun t ht => ?_⟩
    · injection ht with ht; subst ht
      exact ⟨by simp [PT.get_put], by omega⟩
    · simp only [PT.get_put]; rw [if_neg (fun hh => ht (by rw [hh]))]

section
variable {P : Program} {E : Env} {ops : Array Oper} {ms : List Nat} {ps : List PI} {B : Base} {γ : G} {pl : List PI} {s : St} {pd : List Rec} {dn : Nat} {L : Array Bool} {a : Act} {w : World}

/-- the plan does an operation that the run has yet to do -/
theorem DInv.plans (hSt : Stat E ops ms ps) (hl : ∀ p ∈ ps, p.i < ops.size) {p : PI} (h : DInv E ops ms ps B γ (p :: pl) s pd dn L a w) {x : What} {nx' : Nat} {s' : St}
    (hnx : s.nx ≤ nx') (hp : putD { s with nx := nx' } p.o.dst x.val = some s') (hev : RecOk E ops.toList s.hp ⟨p, pickTm s.tm (readsOf ops.toList p.o), x⟩)
    (hal : ∀ b v obj, x = .alloc b v obj → b = s.nx ∧ nx' = s.nx + 1) :
    DInv E ops ms ps B γ pl s' (⟨p, pickTm s.tm (readsOf ops.toList p.o), x⟩ :: pd) (Nat.lor dn (2 ^ p.i)) L a w := by
  obtain ⟨c1, c2, c3, c4⟩ := planChk_cons h.chk
  obtain ⟨q1, q2, q3, q4, q5, q6⟩ := putD_some hp
  simp only at q1 q2 q3 q4 q5 q6
  have hpp := h.plan p (List.mem_cons_self ..)
  have hpm : ∀ j, p.m.testBit j = true → dn.testBit j = true := fun j hj => within_ok c2 hj
  have hndn : ∀ {j}, dn.testBit j = true → j ≠ p.i := fun hj hh => by rw [hh, c1] at hj; simp at hj
  have hnd : ¬ D L p.i := fun hh => hndn (h.sub _ hh) rfl
  have hFl : ∀ k, Fl γ L (⟨p, pickTm s.tm (readsOf ops.toList p.o), x⟩ :: pd) k ↔ Fl γ L pd k := by
    intro k
    constructor
    · rintro ⟨r, hr, hf⟩
      rcases List.mem_cons.1 hr with rfl | hr
      · obtain ⟨_, _, _, _, _, hd, _⟩ := hf; exact absurd hd hnd
      · exact ⟨r, hr, hf⟩
    · rintro ⟨r, hr, hf⟩; exact ⟨r, List.mem_cons_of_mem _ hr, hf⟩
  have hdst : ∀ r ∈ pd, ∀ d, r.p.o.dst = some d → p.o.dst ≠ some d := fun r hr d hd =>
    (pairOk_ok (hSt.pair _ (h.mem r hr).1 _ hpp) (hndn (h.mem r hr).2) hd).1
  refine ⟨fun q hq => h.plan q (List.mem_cons_of_mem _ hq), c4, h.size, ?_, ?_, fun i hi => bit_or.2 (.inl (h.sub i hi)), h.clos, ?_, ?_, ?_, ?_, ?_, ?_, ?_, ?_, ?_, ?_, ?_, ?_, ?_, ?_, ?_, ?_, ?_, ?_⟩
  · intro i hi
    rcases bit_or.1 hi with h1 | h1
    · exact h.lt i h1
    · rw [← h1]; exact hl p hpp
  · intro q hq hd j hj
    rcases bit_or.1 hd with h1 | h1
    · exact bit_or.2 (.inl (h.within q hq h1 j hj))
    · refine bit_or.2 (.inl (hpm j ?_))
      rw [(hSt.same hpp hq h1).2]; exact hj
  · intro q hq hd hn
    rcases bit_or.1 hd with h1 | h1
    · obtain ⟨r, hr, hri⟩ := h.pend q hq h1 hn; exact ⟨r, List.mem_cons_of_mem _ hr, hri⟩
    · exact ⟨_, List.mem_cons_self .., h1⟩
  · exact all_cons ⟨hpp, bit_or.2 (.inr rfl)⟩ (fun r hr => ⟨(h.mem r hr).1, bit_or.2 (.inl (h.mem r hr).2)⟩)
  · refine all_cons (all_cons (fun _ => rfl) fun r hr he => absurd he.symm (hndn (h.mem r hr).2)) fun r hr => all_cons (fun he => absurd he (hndn (h.mem r hr).2)) fun r' hr' he => h.uniq r hr r' hr' he
  · refine all_cons (fun d hd => by rw [q1]; exact q5 d hd) fun r hr d hd => ?_
    obtain ⟨k1, k2⟩ := h.cur r hr d hd
    exact ⟨by rw [q6 d (hdst r hr d hd)]; exact k1, by rw [q1]; exact k2⟩
  · rw [q3]; exact all_cons hev h.ev
  · refine all_cons (fun b v obj hx => ?_) fun r hr b v obj hx => ?_
    · obtain ⟨rfl, hn⟩ := hal b v obj hx
      exact ⟨h.later.le, by rw [q4]; omega, fun _ => h.fresh _ (Nat.le_refl _)⟩
    · obtain ⟨k1, k2, k3⟩ := h.num r hr b v obj hx
      exact ⟨k1, by rw [q4]; omega, k3⟩
  · refine all_cons (all_cons (fun _ _ _ _ _ _ _ => rfl) fun r hr b v obj v' obj' hx hx' => ?_) fun r hr => all_cons (fun b v obj v' obj' hx hx' => ?_) fun r' hr' => h.numu r hr r' hr'
    · have := (hal b v obj hx).1
      have := (h.num r hr b v' obj' hx').2.1
      omega
    · have := (hal b v' obj' hx').1
      have := (h.num r hr b v obj hx).2.1
      omega
  · exact all_cons (fun b v obj hx hd => absurd hd hnd) h.fl
  · have no : ∀ k, ¬ FlOne γ L ⟨p, pickTm s.tm (readsOf ops.toList p.o), x⟩ k := by rintro k ⟨_, _, _, _, _, hd, _⟩; exact hnd hd
    exact all_cons (fun r' _ k hf => absurd hf (no k)) fun r hr => all_cons (fun k _ hf => absurd hf (no k)) fun r' hr' => h.flu r hr r' hr'
  · refine all_cons (fun _ t v ht => ?_) h.tr
    simp only [get_pickTm] at ht
    split at ht
    · rename_i hmem
      refine ⟨hmem, fun hc => h.tm t v ht fun q hq hqd hqn => ?_⟩
      obtain ⟨_, hp2⟩ := pairOk_ok (hSt.pair q hq p hpp) (hndn hqn) hqd
      rcases hp2 hmem with hm | hm
      · exact hc q hq hqd hm
      · exact absurd rfl (hndn (h.within q hq hqn _ hm))
    · simp at ht
  · refine all_cons (all_cons (fun hm => absurd rfl (hndn (hpm _ hm))) fun r₀ hr₀ _ t v hd ht => ?_) fun r hr => all_cons (fun hm => absurd rfl (hndn (h.within _ (h.mem r hr).1 (h.mem r hr).2 _ hm))) fun r₀ hr₀ => h.cv r hr r₀ hr₀
    simp only [get_pickTm] at ht
    split at ht
    · have := (h.cur r₀ hr₀ t hd).1
      rw [ht] at this; injection this
    · simp at ht
  · intro t v ht hc
    by_cases hd : p.o.dst = some t
    · exact absurd (hc p hpp hd (bit_or.2 (.inr rfl))) hnd
    · rw [q6 t hd] at ht
      exact h.tm t v ht fun q hq hqd hqn => hc q hq hqd (bit_or.2 (.inl hqn))
  · rw [q1]; exact h.nt
  · rw [q2]; exact h.df
  · rw [q3]
    refine h.hp.own ?_
    rintro b o g _ _ ⟨k1, k2⟩
    exact ⟨k1, fun hh => k2 ((hFl _).1 hh)⟩
  · rw [q4]; exact fun b hb => h.fresh b (by omega)
  · rw [q4]; exact ⟨h.later.ext, h.later.old, Nat.le_trans h.later.le hnx, h.later.fr⟩
  · exact List.pairwise_cons.2 ⟨fun r hr he => absurd he.symm (hndn (h.mem r hr).2), h.nodup⟩

/-- memory is settled -/
theorem settle_heap {ρ : Nat → Value} {m : Nat} : ∀ (pd : List Rec) (own : Nat → Prop) (hp : Heap),
    HR ρ γ (fun k => own k ∧ ¬ Fl γ L pd k) hp w →
    (∀ r ∈ pd, ∀ b v obj, r.x = .alloc b v obj → m.testBit r.p.i = true → ∃ g obj', γ b = some g ∧ D L r.p.i ∧ own g.blk ∧ w.heap[g.blk]? = some obj' ∧ OR ρ γ g obj obj') →
    (pd.Pairwise fun r r' => ∀ k, FlOne γ L r k → ¬ FlOne γ L r' k) →
    HR ρ γ (fun k => own k ∧ ¬ Fl γ L (leftM m pd) k) (settleM m pd hp) w
  | [], own, hp, h, _, _ => by simpa [settleM, leftM] using h
  | r :: rs, own, hp, h, hf, hd => by
    obtain ⟨hd1, hd2⟩ := List.pairwise_cons.1 hd
    have ih := fun own hp h1 h2 => settle_heap (ρ := ρ) (m := m) rs own hp h1 h2 hd2
    -- what is left alone
    have keep : (m.testBit r.p.i = false ∨ ∀ b v obj, r.x ≠ .alloc b v obj) → settleM m (r :: rs) hp = settleM m rs hp →
        HR ρ γ (fun k => own k ∧ ¬ Fl γ L (leftM m (r :: rs)) k) (settleM m (r :: rs) hp) w := by
      intro hc he
      rw [he]
      have := ih (fun k => own k ∧ ¬ FlOne γ L r k) hp ?_ ?_
      · refine this.own ?_
        rintro b o g _ _ ⟨⟨k1, k2⟩, k3⟩
        refine ⟨k1, ?_⟩
        rintro ⟨r', hr', hf'⟩
        simp only [leftM] at hr'
        split at hr'
        · exact k3 ⟨r', hr', hf'⟩
        · rcases List.mem_cons.1 hr' with rfl | hr'
          · exact k2 hf'
          · exact k3 ⟨r', hr', hf'⟩
      · refine h.own ?_
        rintro b o g _ _ ⟨k1, k2⟩
        exact ⟨⟨k1, fun hh => k2 ⟨r, List.mem_cons_self .., hh⟩⟩, fun ⟨r', hr', hf'⟩ => k2 ⟨r', List.mem_cons_of_mem _ hr', hf'⟩⟩
      · intro r' hr' b v obj hx hm
        obtain ⟨g, obj', g1, g2, g3, g4, g5⟩ := hf r' (List.mem_cons_of_mem _ hr') b v obj hx hm
        exact ⟨g, obj', g1, g2, ⟨g3, fun hh => hd1 r' hr' _ hh ⟨b, v, obj, g, hx, g2, g1, rfl⟩⟩, g4, g5⟩
    cases hx : r.x with
    | skip => exact keep (.inr (by simp [hx])) (by simp [settleM, hx])
    | quiet v => exact keep (.inr (by simp [hx])) (by simp [settleM, hx])
    | alloc b v obj =>
      cases hm : m.testBit r.p.i with
      | false => exact keep (.inl hm) (by simp [settleM, hx, hm])
      | true =>
        obtain ⟨g, obj', g1, g2, g3, g4, g5⟩ := hf r (List.mem_cons_self ..) b v obj hx hm
        have hfr : FlOne γ L r g.blk := ⟨b, v, obj, g, hx, g2, g1, rfl⟩
        have he : settleM m (r :: rs) hp = settleM m rs (hp.put b obj) := by simp [settleM, hx, hm]
        have hl : leftM m (r :: rs) = leftM m rs := by simp [leftM, hm]
        rw [he, hl]
        refine ih own (hp.put b obj) ?_ (fun r' hr' => hf r' (List.mem_cons_of_mem _ hr'))
        have hold : ∀ c o, hp.get c = some o → ∀ gc, γ c = some gc → gc.blk ≠ g.blk := by
          intro c o hc gc hgc hh
          obtain ⟨g', o', k1, ⟨_, k2⟩, _⟩ := h.obj c o hc
          rw [hgc] at k1; injection k1 with k1; subst k1
          exact k2 ⟨r, List.mem_cons_self .., by rw [hh]; exact hfr⟩
        refine ⟨fun c o hc => ?_, fun c c' o o' gc gc' h1 h2 h3 h4 h5 => ?_⟩
        · rw [PT.get_put] at hc
          split at hc
          · rename_i hbc; subst hbc
            injection hc with hc; subst hc
            exact ⟨g, obj', g1, ⟨g3, fun ⟨r', hr', hf'⟩ => hd1 r' hr' _ hfr hf'⟩, g4, g5⟩
          · obtain ⟨g', o', k1, ⟨k2, k3⟩, k4, k5⟩ := h.obj c o hc
            exact ⟨g', o', k1, ⟨k2, fun ⟨r', hr', hf'⟩ => k3 ⟨r', List.mem_cons_of_mem _ hr', hf'⟩⟩, k4, k5⟩
        · rw [PT.get_put] at h1 h2
          split at h1
          · rename_i hbc
            split at h2
            · rename_i hbc'; rw [← hbc, ← hbc']
            · exfalso
              subst hbc
              rw [g1] at h3; injection h3 with h3; subst h3
              exact hold c' _ h2 gc' h4 h5.symm
          · split at h2
            · rename_i hbc'
              exfalso
              subst hbc'
              rw [g1] at h4; injection h4 with h4; subst h4
              exact hold c _ h1 gc h3 h5
            · exact h.inj c c' o o' gc gc' h1 h2 h3 h4 h5

theorem leftM_mem {m : Nat} : ∀ {pd : List Rec} {r : Rec}, r ∈ leftM m pd ↔ r ∈ pd ∧ m.testBit r.p.i = false
  | [], r => by simp [leftM]
  | x :: xs, r => by
    simp only [leftM]
    split
    · rename_i hm
      rw [leftM_mem, List.mem_cons]
      constructor
      · rintro ⟨h1, h2⟩; exact ⟨.inr h1, h2⟩
      · rintro ⟨rfl | h1, h2⟩
        · rw [hm] at h2; simp at h2
        · exact ⟨h1, h2⟩
    · rename_i hm
      rw [List.mem_cons, leftM_mem, List.mem_cons]
      constructor
      · rintro (rfl | ⟨h1, h2⟩)
        · exact ⟨.inl rfl, by simpa using hm⟩
        · exact ⟨.inr h1, h2⟩
      · rintro ⟨rfl | h1, h2⟩
        · exact .inl rfl
        · exact .inr ⟨h1, h2⟩
end
end
end Go.Ev
