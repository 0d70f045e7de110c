/- Regions whose order is open: the whole; soundness of the evaluator. -/
import Derived.Test.YtmplfbdnidlpoaaGreatDoorEvDraw3
namespace Go.Ev
noncomputable section
variable {K : KI}

section
variable {P : Program} {E : Env} {ops : Array Oper} {ms : List Nat} {ps : List PI} {B : Base} {γ : G} {pl : List PI} {s : St} {pd : List Rec} {dn : Nat} {L : Array Bool} {a : Act} {w : World}

/-- slots, behind a panic -/
theorem DInv.killed (hSt : Stat E ops ms ps) (h : DInv E ops ms ps B γ pl s pd dn L a w) : TmR B.ρ γ (killD ops.toList s.tm) s.nt a := by
  refine ⟨h.nt, fun t v ht => ?_⟩
  obtain ⟨h1, h2⟩ := get_killD _ _ _ _ ht
  refine h.tm t v h1 fun q hq hd _ => ?_
  have := (hSt.ent q hq).1
  exact absurd hd (h2 q.o (by
    rw [Array.mem_toList_iff]
    exact Array.mem_of_getElem? this))

/-- the end of a region -/
theorem DInv.ended (h : DInv E ops ms ps B γ pl s pd dn L a w) (hall : ∀ i, i < ops.size → D L i) :
    StR B γ { s with hp := settleM (2 ^ ops.toList.length - 1) pd s.hp } a w := by
  refine ⟨⟨h.nt, fun t v ht => h.tm t v ht fun q _ _ hqn => hall _ (h.lt _ hqn)⟩, h.df, ?_, h.fresh, h.later⟩
  have := h.settled (m := 2 ^ ops.toList.length - 1) (fun j _ r hr he => hall _ (by rw [← he]; exact h.lt _ (h.mem r hr).2))
  exact this.own fun b o g _ _ hk => hk.1

theorem kindLoud {k : OpK} : isLoud k = true ↔ k = .loud := by cases k <;> simp [isLoud]

theorem dops_run (hE : EnvOk P E) (hSt : Stat E ops ms ps) (hB : Good K B) {r : Res} : ∀ (n : Nat), (∀ m, m < n → ∀ f args hp nx r, run E m (.call f args hp nx) = some r → Ok0 P K (.call f args hp nx) r) →
    ∀ (pl : List PI) (s : St) (pd : List Rec) (dn : Nat) (L : Array Bool) (a : Act) (w : World) (γ : G) (fuel : Nat), run E n (.dops ops.toList pl s pd) = some r →
    DInv E ops ms ps B γ pl s pd dn L a w → L.toList.count false = fuel → wpAny P .any ops (CodeQ B r) fuel L a w
  | 0, _, _, _, _, _, _, _, _, _, _, hrun, _, _ => by simp [run] at hrun
  | n + 1, hcall, pl, s, pd, dn, L, a, w, γ, fuel, hrun, hI, hcount => by
    have ihn := dops_run hE hSt hB (r := r) n (fun m hm => hcall m (by omega))
    have hl : ∀ p ∈ ps, p.i < ops.size := fun p hp => (Array.getElem?_eq_some_iff.1 (hSt.ent p hp).1).1
    have hrun : stepDs E (run E n) ops.toList s pd pl = some r := hrun
    -- an operation that the plan has done
    have pend : ∀ {pl dn L a w γ} {K : Act → World → Prop} {i : Nat}, DInv E ops ms ps B γ pl s pd dn L a w → i ∈ Region.ready .any ops L → dn.testBit i = true →
        (∀ γ' a' w', DInv E ops ms ps B γ' pl s pd dn (L.setIfInBounds i true) a' w' → K a' w') → wpOp P ops (CodeQ B r) i K a w := by
      intro pl dn L a w γ K i hI hi hdn hK
      obtain ⟨h1, o, ho, h2⟩ := (mem_ready_iff hI).1 hi
      obtain ⟨p, hp, rfl⟩ := hSt.all i o ho
      obtain ⟨rc, hr, hri⟩ := hI.pend p hp hdn h1
      have he := hSt.same (hI.mem rc hr).1 hp hri
      have ho2 := (hSt.ent p hp).1
      rw [ho] at ho2; injection ho2 with ho2
      rw [← hri] at hK h1 ⊢
      exact hI.exec hE hSt hB hr h1 (fun j hj => h2 j (by rw [ho2, ← he.1]; exact hj)) hK
    cases pl with
    | nil =>
      simp only [stepDs] at hrun
      injection hrun with hrun; subst hrun
      have hdn : ∀ i, i < ops.size → dn.testBit i = true := by
        intro i hi
        apply Classical.byContradiction
        intro hn
        obtain ⟨q, hq, _⟩ := planChk_left hI.chk i (by simpa using hi) (by simpa using hn)
        simp at hq
      clear ihn
      have hc := hcount
      clear hcount
      induction fuel generalizing L a w γ with
      | zero =>
        have hall : ∀ i, i < ops.size → D L i := fun i hi => count_zero hc (by rw [hI.size]; exact hi)
        refine ⟨?_, _, _, γ, rfl, hI.ended hall, trivial⟩
        rw [List.eq_nil_iff_forall_not_mem]
        intro i hi
        obtain ⟨h1, o, ho, _⟩ := (mem_ready_iff hI).1 hi
        exact h1 (hall i (Array.getElem?_eq_some_iff.1 ho).1)
      | succ fuel ih =>
        refine ⟨fun hr => ⟨_, _, γ, rfl, hI.ended (hI.all_done hSt (by rw [hr]; simp)), trivial⟩, fun i hi => ?_⟩
        obtain ⟨h1, o, ho, _⟩ := (mem_ready_iff hI).1 hi
        have hlt := (Array.getElem?_eq_some_iff.1 ho).1
        refine pend hI hi (hdn i hlt) fun γ' a' w' hI' => ih _ _ _ _ hI' (count_set (by rw [hI.size]; exact hlt) h1 hc)
    | cons p pl =>
      simp only [stepDs, ob_some] at hrun
      obtain ⟨wb, hwb, hrun⟩ := hrun
      have hpp := hI.plan p (List.mem_cons_self ..)
      have hent := hSt.ent p hpp
      have same : ({ s with nx := s.nx } : St) = s := rfl
      cases hk : p.k with
      | quiet =>
        simp only [stepDp, hk] at hrun
        cases wb with
        | false =>
          simp only [bc_false, ob_some] at hrun
          obtain ⟨s', hp, hrun⟩ := hrun
          exact ihn pl s' _ _ L a w γ fuel hrun (hI.plans hSt hl (x := .skip) (Nat.le_refl _) hp hwb (by simp)) hcount
        | true =>
          simp only [bc_true, ob_some] at hrun
          obtain ⟨v, hv, s', hp, hrun⟩ := hrun
          exact ihn pl s' _ _ L a w γ fuel hrun (hI.plans hSt hl (x := .quiet v) (Nat.le_refl _) hp ⟨hwb, hv⟩ (by simp)) hcount
      | alloc =>
        simp only [stepDp, hk] at hrun
        cases wb with
        | false =>
          simp only [bc_false, ob_some] at hrun
          obtain ⟨s', hp, hrun⟩ := hrun
          exact ihn pl s' _ _ L a w γ fuel hrun (hI.plans hSt hl (x := .skip) (Nat.le_refl _) hp hwb (by simp)) hcount
        | true =>
          simp only [bc_true, ob_some] at hrun
          obtain ⟨⟨v, obj⟩, hv, s', hp, hrun⟩ := hrun
          exact ihn pl s' _ _ L a w γ fuel hrun (hI.plans hSt hl (x := .alloc s.nx v obj) (Nat.le_succ _) hp ⟨hwb, hv⟩ (fun b v' obj' hx => by injection hx with h1 h2 h3; exact ⟨h1.symm, rfl⟩)) hcount
      | loud =>
        simp only [stepDp, hk] at hrun
        obtain ⟨c1, c2, c3, c4⟩ := planChk_cons hI.chk
        have hcl := c3 (kindLoud.2 hk)
        have hc := hcount
        clear hcount
        induction fuel generalizing L a w γ with
        | zero =>
          have := count_zero hc (i := p.i) (by rw [hI.size]; exact hl p hpp)
          have := hI.sub _ this
          rw [c1] at this; simp at this
        | succ fuel ih =>
          refine ⟨fun hr => ?_, fun i hi => ?_⟩
          · have := hI.sub _ (hI.all_done hSt (by rw [hr]; simp) p.i (hl p hpp))
            rw [c1] at this; simp at this
          · obtain ⟨h1, o, ho, h2⟩ := (mem_ready_iff hI).1 hi
            have hlt := (Array.getElem?_eq_some_iff.1 ho).1
            cases hdi : dn.testBit i with
            | true => exact pend hI hi hdi fun γ' a' w' hI' => ih _ _ _ _ hI' (count_set (by rw [hI.size]; exact hlt) h1 hc)
            | false =>
              have hndn : ∀ {j}, dn.testBit j = true → j ≠ p.i := fun hj hh => by rw [hh, c1] at hj; simp at hj
              have hip : i = p.i := by
                apply Classical.byContradiction
                intro hne
                obtain ⟨q, hq, hqi⟩ := planChk_left hI.chk i (by simpa using hlt) hdi
                have hqp := hI.plan q hq
                rcases List.mem_cons.1 hq with rfl | hq
                · exact hne hqi.symm
                · have hqo := (hSt.ent q hqp).1
                  rw [hqi, ho] at hqo; injection hqo with hqo
                  have := hI.ahead hSt hqp (fun j hj => Nat.lt_trans (testBit_lt (hSt.low q hqp) hj) (hl q hqp)) (fun j hj => h2 j (by rw [hqo]; exact hj)) _ (hcl q hq)
                  exact hndn (hI.sub _ this) rfl
              subst hip
              have ho2 := hent.1
              rw [ho] at ho2; injection ho2 with ho2
              subst ho2
              have hmk := hI.ahead hSt hpp (fun j hj => Nat.lt_trans (testBit_lt (hSt.low p hpp) hj) (hl p hpp)) h2
              have hT : TmR B.ρ γ (pickTm s.tm (readsOf ops.toList p.o)) s.nt a := by
                refine ⟨hI.nt, fun t v ht => ?_⟩
                rw [get_pickTm] at ht
                split at ht
                · rename_i hmem
                  refine hI.tm t v ht fun q hq hqd hqn => ?_
                  obtain ⟨_, hp2⟩ := pairOk_ok (hSt.pair q hq p hpp) (hndn hqn) hqd
                  rcases hp2 hmem with hm | hm
                  · exact hmk _ hm
                  · exact absurd rfl (hndn (hI.within q hq hqn _ hm))
                · simp at ht
              have hset := hI.settled (m := p.m) (fun j hj _ _ _ => hmk j hj)
              have hup1 : Up (fun k => B.own k ∧ ¬ Fl γ L (leftM p.m pd) k) w := by
                intro k hk
                refine ⟨(hB.up.fr hI.later.fr) k hk, ?_⟩
                rintro ⟨rc, hrc, b, v, obj, g, hx, hd, hg, rfl⟩
                obtain ⟨g', obj', k1, _, k3, _⟩ := hI.fl rc (leftM_mem.1 hrc).1 b v obj hx hd
                rw [hg] at k1; injection k1 with k1; subst k1
                rw [Array.getElem?_eq_none hk] at k3; simp at k3
              have next : ∀ {v hp' nx' γ' v' w'}, Left B.ρ γ (fun k => B.own k ∧ ¬ Fl γ L (leftM p.m pd) k) w s.nx v hp' nx' γ' v' w' →
                  afterD E (run E n) ops.toList p.o pl { s with hp := settleM p.m pd s.hp } (leftM p.m pd) v hp' nx' = some r → wpAny P .any ops (CodeQ B r) fuel (L.setIfInBounds p.i true) (a.put p.o.dst v') w' := by
                intro v hp' nx' γ' v' w' l hr
                simp only [afterD, og_some, ob_some] at hr
                obtain ⟨hrc, s', hp, hr⟩ := hr
                exact ihn pl s' _ _ _ _ _ γ' fuel hr (hI.after hSt hl hmk l hrc hp) (count_set (by rw [hI.size]; exact hlt) h1 hc)
              simp only [wpOp, ho]
              cases wb with
              | false =>
                rw [if_neg (by rw [wanted_ok hT hwb]; simp)]
                simp only [bc_false] at hrun
                exact next (Left.still tup0 hset (Fr.refl _ _) hI.fresh) hrun
              | true =>
                rw [if_pos (wanted_ok hT hwb)]
                left
                simp only [bc_true, ob_some] at hrun
                obtain ⟨q, hq, hrun⟩ := hrun
                have hor := opC_ok (P := P) (w := w) (own := fun k => B.own k ∧ ¬ Fl γ L (leftM p.m pd) k) (γ := γ) (s := { s with tm := pickTm s.tm (readsOf ops.toList p.o), hp := settleM p.m pd s.hp }) hE hset hI.fresh hup1 hT rfl rfl hq
                simp only [Oper.wp]
                cases q with
                | val v hp' nx' =>
                  simp only [stepD] at hrun
                  obtain ⟨v', w', γ', hr, l⟩ := hor
                  rcases hr with hr | ⟨hr, rfl⟩
                  · simp only [hr, Oper.upon]; exact next l hrun
                  · simp only [hr, Oper.upon]; exact next l hrun
                | enter f args =>
                  obtain ⟨args', hr, ha⟩ := hor
                  simp only [stepD, ob_some] at hrun
                  obtain ⟨r', hr', hrun⟩ := hrun
                  have hcl := hcall n (by omega) _ _ _ _ _ hr' { ρ := B.ρ, γ := γ, own := fun k => B.own k ∧ ¬ Fl γ L (leftM p.m pd) k, nx := s.nx, w := w } ⟨hI.fresh, hup1, fun w' hw => hB.inv w' (hI.later.fr.trans (hw.mono fun _ _ hh => hh.1))⟩ rfl hset args' ha
                  simp only [hr, Oper.upon]
                  refine hcl.mono fun e w' he => ?_
                  cases e with
                  | outgrown => exact he.elim
                  | returned v' =>
                    obtain ⟨v, hp, nx, γ', rfl, k1, k2, k3, k4⟩ := he
                    exact next ⟨k4.ext, k1, k2, k3, k4.le, k4.fr, k4.old⟩ hrun
                  | panicked ch =>
                    obtain ⟨v, hp, nx, γ', rfl, ⟨v', rfl, k1⟩, k2, k3, k4⟩ := he
                    simp only at hrun
                    injection hrun with hrun; subst hrun
                    refine ⟨_, _, γ', rfl, ⟨(hI.killed hSt).ext k4.ext, hI.df.ext k4.ext, k2.own fun _ _ _ _ _ hk => hk.1, k3, ?_⟩, v', rfl, k1⟩
                    exact ⟨hI.later.ext.trans k4.ext, hI.later.old.trans k4.old hI.later.le, Nat.le_trans hI.later.le k4.le, hI.later.fr.trans (k4.fr.mono fun _ _ hh => hh.1)⟩
                | defer f args => simp [stepD] at hrun
                | recover => simp [stepD] at hrun
                | pan v =>
                  obtain ⟨v', hr, hv⟩ := hor
                  simp only [stepD] at hrun
                  injection hrun with hrun; subst hrun
                  simp only [hr, Oper.upon]
                  exact ⟨_, _, γ, rfl, ⟨hI.killed hSt, hI.df, hset.own fun _ _ _ _ _ hk => hk.1, hI.fresh, hI.later⟩, v', rfl, hv⟩

theorem replicate_D {n i : Nat} : ¬ D (Array.replicate n false) i := by
  intro h
  have hi := D_lt h
  have hi : i < n := by simpa using hi
  simp [D, hi] at h

theorem dops_ok (hE : EnvOk P E) {n : Nat} (hcall : ∀ m, m < n → ∀ f args hp nx r, run E m (.call f args hp nx) = some r → Ok0 P K (.call f args hp nx) r) : OkD P E K (run E n) := by
  intro ops pl s r hpl hrun B hB γ a w hS
  obtain ⟨ms, ps, hSt, hmem, hchk⟩ := planOf_ok hpl
  refine dops_run hE hSt hB n hcall pl s [] 0 _ a w γ _ hrun ?_ (by simp)
  refine ⟨hmem, hchk, by simp, by simp, by simp, fun i hi => absurd hi replicate_D, fun p _ hi => absurd hi replicate_D, by simp, by simp, by simp, by simp, by simp, by simp, by simp, by simp, by simp, by simp, by simp,
    fun t v ht _ => hS.tm.get t v ht, hS.tm.size, hS.df, hS.hp.own fun b o g _ _ hk => ⟨hk, ?_⟩, hS.fresh, hS.later, .nil⟩
  rintro ⟨r, hr, _⟩
  simp at hr

/-- **The evaluator is sound.** -/
theorem run_ok (hE : EnvOk P E) (hSum : SumOk P E K) : ∀ (n : Nat) (t : Task) (r : Res), run E n t = some r → Ok0 P K t r := by
  intro n
  induction n using Nat.strongRecOn with
  | _ n ih =>
    intro t r h
    cases n with
    | zero => simp [run] at h
    | succ n =>
      have h2 : step E (run E n) t = some r := h
      have hih := ih n (Nat.lt_succ_self n)
      cases t with
      | code c s => exact stepCode_ok hE hih (dops_ok hE fun m hm f args hp nx r => ih m (by omega) _ r) h2
      | loop c s => exact loop_ok (fun m hm t r _ => ih m hm t r) h
      | ops all rest s => exact stepOps_ok hE hSum hih h2
      | dops all pl s pd => trivial
      | call f args hp nx => exact stepCall_ok hE hSum hih h2
      | leave fn tm df pan hp nx => exact stepLeave_ok hE hih h2
      | rcode c s um => exact stepRcode_ok hih h2
      | rops all rest s um => exact stepRops_ok hE hih h2
end
end
end Go.Ev
