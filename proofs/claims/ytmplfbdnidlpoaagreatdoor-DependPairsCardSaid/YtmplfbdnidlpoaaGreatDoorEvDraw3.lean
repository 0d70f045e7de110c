/- Regions whose order is open: loud operations; the whole. -/
import Derived.Test.YtmplfbdnidlpoaaGreatDoorEvDraw2
namespace Go.Ev
noncomputable section

mutual
theorem sameAV_eq : ∀ {a b : AV}, sameAV a b = true → a = b
  | .bool a, b, h => by cases b <;> simp [sameAV] at h; rw [h]
  | .int k n, b, h => by
    cases b <;> simp [sameAV, eqKind_eq, eqInt_eq] at h
    rw [h.1, h.2]
  | .str s, b, h => by cases b <;> simp [sameAV] at h; rw [eqBytes_spec h]
  | .nilPtr, b, h => by cases b <;> simp [sameAV] at h; rfl
  | .ptr _ _, b, h => by cases b <;> simp [sameAV, -Nat.beq_eq] at h; rw [beq_iff.1 h.1, beq_iff.1 h.2]
  | .nilSlice, b, h => by cases b <;> simp [sameAV] at h; rfl
  | .slice _ _ _ _, b, h => by cases b <;> simp [sameAV, -Nat.beq_eq] at h; rw [beq_iff.1 h.1.1.1, beq_iff.1 h.1.1.2, beq_iff.1 h.1.2, beq_iff.1 h.2]
  | .oslice _ _ _ _, b, h => by cases b <;> simp [sameAV, -Nat.beq_eq] at h; rw [beq_iff.1 h.1.1.1, beq_iff.1 h.1.1.2, beq_iff.1 h.1.2, beq_iff.1 h.2]
  | .nilMap, b, h => by cases b <;> simp [sameAV] at h; rfl
  | .map _, b, h => by cases b <;> simp [sameAV, -Nat.beq_eq] at h; rw [beq_iff.1 h]
  | .func f c, b, h => by
    cases b <;> simp [sameAV] at h
    rw [h.1, sameAVs_eq h.2]
  | .nilFunc, b, h => by cases b <;> simp [sameAV] at h; rfl
  | .iface t v, b, h => by
    cases b <;> simp [sameAV, -Nat.beq_eq] at h
    rw [beq_iff.1 h.1, sameAV_eq h.2]
  | .nilIface, b, h => by cases b <;> simp [sameAV] at h; rfl
  | .agg c, b, h => by cases b <;> simp [sameAV] at h; rw [sameAVs_eq h]
  | .tup c, b, h => by cases b <;> simp [sameAV] at h; rw [sameAVs_eq h]
  | .opq _, b, h => by cases b <;> simp [sameAV, -Nat.beq_eq] at h; rw [beq_iff.1 h]
theorem sameAVs_eq : ∀ {a b : List AV}, sameAVs a b = true → a = b
  | [], b, h => by cases b <;> simp [sameAVs] at h; rfl
  | x :: xs, b, h => by
    cases b <;> simp [sameAVs] at h
    rw [sameAV_eq h.1, sameAVs_eq h.2]
end

theorem recheck_ok {E : Env} {hp : Heap} : ∀ {pd : List Rec}, recheck E hp pd = true → ∀ r ∈ pd, ∀ v, r.x = .quiet v → opQ E r.p.o.op r.tr hp = some v
  | [], _, r, hr, _, _ => by simp at hr
  | x :: xs, h, r, hr, v, hx => by
    simp only [recheck] at h
    rcases List.mem_cons.1 hr with rfl | hr
    · rw [hx] at h
      simp only [Bool.and_eq_true] at h
      have h1 := h.1
      split at h1
      · rename_i u hu; rw [sameAV_eq h1]; exact hu
      · simp at h1
    · have : recheck E hp xs = true := by
        split at h
        · simp only [Bool.and_eq_true] at h; exact h.2
        · exact h
      exact recheck_ok this r hr v hx

theorem leftM_sublist {m : Nat} : ∀ {pd : List Rec}, (leftM m pd).Sublist pd
  | [] => List.Sublist.refl _
  | x :: xs => by
    simp only [leftM]
    split
    · exact List.Sublist.cons _ leftM_sublist
    · exact List.Sublist.cons_cons _ leftM_sublist

section
variable {P : Program} {E : Env} {ops : Array Oper} {ms : List Nat} {ps : List PI} {B : Base} {γ : G} {pl : List PI} {s : St} {pd : List Rec} {dn : Nat} {L : Array Bool} {a : Act} {w : World}

theorem DInv.apart (h : DInv E ops ms ps B γ pl s pd dn L a w) : pd.Pairwise fun r r' => ∀ k, FlOne γ L r k → ¬ FlOne γ L r' k := by
  have := h.nodup
  have key : ∀ l : List Rec, (∀ r ∈ l, r ∈ pd) → l.Pairwise (fun r r' => r.p.i ≠ r'.p.i) → l.Pairwise fun r r' => ∀ k, FlOne γ L r k → ¬ FlOne γ L r' k := by
    intro l hl hp
    induction hp with
    | nil => exact .nil
    | @cons x xs h1 _ ih =>
      exact List.pairwise_cons.2 ⟨fun r hr k f1 f2 => h1 r hr (h.flu x (hl x (List.mem_cons_self ..)) r (hl r (List.mem_cons_of_mem _ hr)) k f1 f2), ih fun r hr => hl r (List.mem_cons_of_mem _ hr)⟩
  exact key pd (fun _ hr => hr) this

theorem DInv.settled (h : DInv E ops ms ps B γ pl s pd dn L a w) {m : Nat} (hm : ∀ j, m.testBit j = true → ∀ r ∈ pd, r.p.i = j → D L j) :
    HR B.ρ γ (fun k => B.own k ∧ ¬ Fl γ L (leftM m pd) k) (settleM m pd s.hp) w := by
  refine settle_heap pd B.own s.hp h.hp (fun r hr b v obj hx hb => ?_) h.apart
  have hd := hm _ hb r hr rfl
  obtain ⟨g, obj', k1, k2, k3, k4⟩ := h.fl r hr b v obj hx hd
  exact ⟨g, obj', k1, hd, k2, k3, k4⟩

/-- behind a loud operation -/
theorem DInv.after (hSt : Stat E ops ms ps) (hl : ∀ p ∈ ps, p.i < ops.size) {p : PI} (h : DInv E ops ms ps B γ (p :: pl) s pd dn L a w) (hmk : ∀ j, p.m.testBit j = true → D L j)
    {v : AV} {hp' : Heap} {nx' : Nat} {γ' : G} {v' : Value} {w' : World} (l : Left B.ρ γ (fun k => B.own k ∧ ¬ Fl γ L (leftM p.m pd) k) w s.nx v hp' nx' γ' v' w') (hrc : recheck E hp' (leftM p.m pd) = true)
    {s' : St} (hp : putD { s with hp := hp', nx := nx' } p.o.dst v = some s') :
    DInv E ops ms ps B γ' pl s' (leftM p.m pd) (Nat.lor dn (2 ^ p.i)) (L.setIfInBounds p.i true) (a.put p.o.dst v') w' := by
  obtain ⟨c1, c2, c3, c4⟩ := planChk_cons h.chk
  obtain ⟨q1, q2, q3, q4, q5, q6⟩ := putD_some hp
  simp only at q1 q2 q3 q4 q5 q6
  have hpp := h.plan p (List.mem_cons_self ..)
  have hndn : ∀ {j}, dn.testBit j = true → j ≠ p.i := fun hj hh => by rw [hh, c1] at hj; simp at hj
  have hi : p.i < L.size := by rw [h.size]; exact hl p hpp
  have hD : ∀ {j}, D (L.setIfInBounds p.i true) j ↔ D L j ∨ j = p.i := D_set hi
  have hin : ∀ {r}, r ∈ leftM p.m pd → r ∈ pd := fun hr => (leftM_mem.1 hr).1
  have hri : ∀ {r}, r ∈ leftM p.m pd → r.p.i ≠ p.i := fun hr => hndn (h.mem _ (hin hr)).2
  have hDr : ∀ {r}, r ∈ leftM p.m pd → D (L.setIfInBounds p.i true) r.p.i → D L r.p.i := fun hr hd => (hD.1 hd).resolve_right (hri hr)
  have hdst : ∀ r ∈ pd, ∀ d, r.p.o.dst = some d → p.o.dst ≠ some d := fun r hr d hd =>
    (pairOk_ok (hSt.pair _ (h.mem r hr).1 _ hpp) (hndn (h.mem r hr).2) hd).1
  have hltk : ∀ {k : Nat} {o : Obj}, w.heap[k]? = some o → k < w.heap.size := fun {k o} hk => by
    rcases Nat.lt_or_ge k w.heap.size with hh | hh
    · exact hh
    · simp [Array.getElem?_eq_none hh] at hk
  have hone : ∀ {r} {k : Nat}, r ∈ leftM p.m pd → FlOne γ' (L.setIfInBounds p.i true) r k → FlOne γ L r k := by
    rintro r k hr ⟨b, u, obj, g, hx, hd, hg, rfl⟩
    refine ⟨b, u, obj, g, hx, hDr hr hd, ?_, rfl⟩
    rw [← l.old b (h.num r (hin hr) b u obj hx).2.1]; exact hg
  refine ⟨fun q hq => h.plan q (List.mem_cons_of_mem _ hq), c4, by simp [h.size], ?_, ?_, ?_, ?_, ?_, ?_, ?_, ?_, ?_, ?_, ?_, ?_, ?_, ?_, ?_, ?_, ?_, ?_, ?_, ?_, ?_, ?_⟩
  · intro i hi'
    rcases bit_or.1 hi' with h1 | h1
    · exact h.lt i h1
    · rw [← h1]; exact hl p hpp
  · intro q hq hd j hj
    rcases bit_or.1 hd with h1 | h1
    · exact bit_or.2 (.inl (h.within q hq h1 j hj))
    · refine bit_or.2 (.inl (within_ok c2 ?_))
      rw [(hSt.same hpp hq h1).2]; exact hj
  · intro i hi'
    rcases hD.1 hi' with h1 | h1
    · exact bit_or.2 (.inl (h.sub i h1))
    · exact bit_or.2 (.inr h1.symm)
  · intro q hq hd j hj
    rcases hD.1 hd with h1 | h1
    · exact hD.2 (.inl (h.clos q hq h1 j hj))
    · refine hD.2 (.inl (hmk j ?_))
      rw [← (hSt.same hq hpp h1).2]; exact hj
  · intro q hq hd hn
    have hqi : q.i ≠ p.i := fun hh => hn (hD.2 (.inr hh))
    have hn1 : ¬ D L q.i := fun hh => hn (hD.2 (.inl hh))
    rcases bit_or.1 hd with h1 | h1
    · obtain ⟨r, hr, hrq⟩ := h.pend q hq h1 hn1
      refine ⟨r, leftM_mem.2 ⟨hr, ?_⟩, hrq⟩
      rw [Bool.eq_false_iff]; intro hh
      exact hn1 (by rw [← hrq]; exact hmk _ hh)
    · exact absurd h1.symm hqi
  · intro r hr
    obtain ⟨k1, k2⟩ := h.mem r (hin hr)
    exact ⟨k1, bit_or.2 (.inl k2)⟩
  · exact fun r hr r' hr' => h.uniq r (hin hr) r' (hin hr')
  · intro r hr d hd
    obtain ⟨k1, k2⟩ := h.cur r (hin hr) d hd
    exact ⟨by rw [q6 d (hdst r (hin hr) d hd)]; exact k1, by rw [q1]; exact k2⟩
  · intro r hr
    have hev := h.ev r (hin hr)
    rw [q3]
    cases hx : r.x with
    | skip => simpa only [RecOk, hx] using hev
    | quiet u =>
      simp only [RecOk, hx] at hev ⊢
      exact ⟨hev.1, recheck_ok hrc r hr u hx⟩
    | alloc b u obj => simpa only [RecOk, hx] using hev
  · intro r hr b u obj hx
    obtain ⟨k1, k2, k3⟩ := h.num r (hin hr) b u obj hx
    refine ⟨k1, by rw [q4]; exact Nat.lt_of_lt_of_le k2 l.le, fun hn => ?_⟩
    rw [l.old b k2]
    exact k3 (fun hh => hn (hD.2 (.inl hh)))
  · exact fun r hr r' hr' => h.numu r (hin hr) r' (hin hr')
  · intro r hr b u obj hx hd
    have hd := hDr hr hd
    obtain ⟨g, obj', k1, k2, k3, k4⟩ := h.fl r (hin hr) b u obj hx hd
    refine ⟨g, obj', l.ext _ _ k1, k2, ?_, k4.ext l.ext⟩
    rw [l.fr.block g.blk (hltk k3) (fun ⟨_, hh⟩ => hh ⟨r, hr, b, u, obj, g, hx, hd, k1, rfl⟩)]
    exact k3
  · exact fun r hr r' hr' k h1 h2 => h.flu r (hin hr) r' (hin hr') k (hone hr h1) (hone hr' h2)
  · intro r hr hn t u ht
    have hn1 : ¬ D L r.p.i := fun hh => hn (hD.2 (.inl hh))
    obtain ⟨k1, k2⟩ := h.tr r (hin hr) hn1 t u ht
    refine ⟨k1, fun hc => ?_⟩
    have hd : p.o.dst ≠ some t := by
      intro hd
      obtain ⟨_, hp2⟩ := pairOk_ok (hSt.pair _ hpp _ (h.mem r (hin hr)).1) (hri hr).symm hd
      rcases hp2 k1 with hm | hm
      · exact hndn (h.within _ (h.mem r (hin hr)).1 (h.mem r (hin hr)).2 _ hm) rfl
      · exact hn1 (hmk _ hm)
    obtain ⟨x, u1, u2⟩ := k2 (fun q hq hqd hqm => by
      rcases hD.1 (hc q hq hqd hqm) with h1 | h1
      · exact h1
      · exact absurd ((hSt.same hq hpp h1).1 ▸ hqd) hd)
    exact ⟨x, by rw [put_other _ _ hd]; exact u1, u2.ext l.ext⟩
  · exact fun r hr r₀ hr₀ => h.cv r (hin hr) r₀ (hin hr₀)
  · intro t u ht hc
    by_cases hd : p.o.dst = some t
    · obtain ⟨k1, k2⟩ := q5 t hd
      rw [ht] at k1; injection k1 with k1; subst k1
      exact ⟨v', by rw [hd]; exact put_same (by rw [h.nt]; exact k2), l.val⟩
    · rw [q6 t hd] at ht
      obtain ⟨x, u1, u2⟩ := h.tm t u ht fun q hq hqd hqn => by
        rcases hD.1 (hc q hq hqd (bit_or.2 (.inl hqn))) with h1 | h1
        · exact h1
        · exact absurd ((hSt.same hq hpp h1).1 ▸ hqd) hd
      exact ⟨x, by rw [put_other _ _ hd]; exact u1, u2.ext l.ext⟩
  · rw [put_size, q1]; exact h.nt
  · rw [put_dfs, q2]; exact h.df.ext l.ext
  · rw [q3]
    refine l.heap.own ?_
    rintro b o g _ _ ⟨k1, k2⟩
    exact ⟨k1, fun ⟨r, hr, hf⟩ => k2 ⟨r, hr, hone hr hf⟩⟩
  · rw [q4]; exact l.fresh
  · rw [q4]
    exact ⟨h.later.ext.trans l.ext, h.later.old.trans l.old h.later.le, Nat.le_trans h.later.le l.le, h.later.fr.trans (l.fr.mono fun _ _ hh => hh.1)⟩
  · exact h.nodup.sublist leftM_sublist

theorem mem_ready_iff {i : Nat} (h : DInv E ops ms ps B γ pl s pd dn L a w) : i ∈ Region.ready .any ops L ↔ ¬ D L i ∧ ∃ o, ops[i]? = some o ∧ ∀ j ∈ edgesOf o, D L j := by
  rw [mem_ready]
  constructor
  · rintro ⟨h1, o, ho, h2⟩
    refine ⟨fun hd => ?_, o, ho, fun j hj => ?_⟩
    · have hi := D_lt hd
      simp [D, hi] at hd h1
      rw [h1] at hd; simp at hd
    · simp only [edgesOf, List.mem_map, List.mem_filter] at hj
      obtain ⟨e, ⟨he, hb⟩, rfl⟩ := hj
      exact h2 e (by simpa using he) hb
  · rintro ⟨h1, o, ho, h2⟩
    refine ⟨?_, o, ho, fun e he hb => h2 e.on ?_⟩
    · have hi : i < L.size := by rw [h.size]; exact (Array.getElem?_eq_some_iff.1 ho).1
      simpa [D, hi] using h1
    · simp only [edgesOf, List.mem_map, List.mem_filter]
      exact ⟨e, ⟨by simpa using he, hb⟩, rfl⟩

/-- if nothing may go, all is done -/
theorem DInv.all_done (hSt : Stat E ops ms ps) (h : DInv E ops ms ps B γ pl s pd dn L a w) (hr : ∀ i, i ∉ Region.ready .any ops L) : ∀ i, i < ops.size → D L i := by
  intro i
  induction i using Nat.strongRecOn with
  | _ i ih =>
    intro hi
    apply Classical.byContradiction
    intro hn
    obtain ⟨p, hp, hpi⟩ := hSt.all i _ (Array.getElem?_eq_getElem hi)
    refine hr i ((mem_ready_iff h).2 ⟨hn, ops[i], Array.getElem?_eq_getElem hi, fun j hj => ?_⟩)
    have ho := (hSt.ent p hp).1
    rw [hpi, Array.getElem?_eq_getElem hi] at ho
    injection ho with ho
    rw [ho] at hj
    have hj2 := testBit_lt (hSt.low p hp) (hSt.edge p hp j hj)
    rw [hpi] at hj2
    exact ih j hj2 (by omega)

theorem count_set {L : Array Bool} {i n : Nat} (hi : i < L.size) (hn : ¬ D L i) (hc : L.toList.count false = n + 1) : (L.setIfInBounds i true).toList.count false = n := by
  have hf : L.toList[i]'(by simpa using hi) = false := by
    simp [D, hi] at hn
    simpa using hn
  rw [Array.toList_setIfInBounds, List.count_set (h := by simpa using hi)]
  simp only [hf]
  simp at hc ⊢; omega

theorem count_zero {L : Array Bool} (hc : L.toList.count false = 0) {i : Nat} (hi : i < L.size) : D L i := by
  apply Classical.byContradiction
  intro hn
  have hf : L[i] = false := by
    simp [D, hi] at hn
    exact hn
  rw [List.count_eq_zero] at hc
  exact hc (by rw [← hf]; simp)
end
end
end Go.Ev
