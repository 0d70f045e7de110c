/- append, over abstract memory. -/
import Derived.Test.YtmplfbdnidlpoaaGreatDoorEvApp
namespace Go.Ev
noncomputable section

section
variable {ρ : Nat → Value} {γ : G} {P : Program} {E : Env} {w : World} {own : Nat → Prop} {hp : Heap} {nx : Nat}

/-- nothing is said anew of what has a number -/
def Old (γ γ' : G) (nx : Nat) : Prop := ∀ b, b < nx → γ' b = γ b
theorem Old.refl (γ : G) (nx : Nat) : Old γ γ nx := fun _ _ => rfl
theorem Old.upd (γ : G) (nx : Nat) (g : Blk) : Old γ (Go.Ev.upd γ nx g) nx := fun b h => upd_other _ _ (by omega)
theorem Old.trans {a b c : G} {n m : Nat} (h : Old a b n) (k : Old b c m) (hn : n ≤ m) : Old a c n := fun x hx => (k x (by omega)).trans (h x hx)

/-- what an operation leaves -/
structure Left (ρ : Nat → Value) (γ : G) (own : Nat → Prop) (w : World) (nx : Nat) (v : AV) (hp' : Heap) (nx' : Nat) (γ' : G) (v' : Value) (w' : World) : Prop where
  ext : Ext γ γ'
  val : VR ρ γ' v v'
  heap : HR ρ γ' own hp' w'
  fresh : Fresh γ' nx'
  le : nx ≤ nx'
  fr : Fr own w w'
  old : Old γ γ' nx

/-- a new row, with room behind it -/
theorem grow_left (hR : HR ρ γ own hp w) (hf : Fresh γ nx) (hup : Up own w) {esz need newCap : Nat} {as : List AV} {vs rest : List Value} (hv : VRs ρ γ as vs) (hlen : as.length = need * esz)
    (hcap : need ≤ newCap) (hrest : rest.length = (newCap - need) * esz) (e : TypeId) :
    ∃ γ', Left ρ γ own w nx (.oslice nx 0 need esz) (hp.put nx (.cells (rowOf as) [] (need * esz))) (nx + 1) γ' (.slice (some ⟨w.heap.size, 0, none⟩) need newCap)
      (w.drew.alloc (.cells ⟨vs ++ rest⟩ e)) := by
  have hl := hv.length
  have hN : (vs ++ rest).length = newCap * esz := by
    rw [List.length_append, ← hl, hlen, hrest, ← Nat.add_mul]; congr 1; omega
  have hle : need * esz ≤ newCap * esz := Nat.mul_le_mul_right _ hcap
  have hext := upd_ext (nx := nx) hf ⟨w.heap.size, 0, newCap * esz⟩
  refine ⟨upd γ nx ⟨w.heap.size, 0, newCap * esz⟩, hext, ?_, ?_, upd_fresh hf _, Nat.le_succ _, (Fr.drew w).trans (Fr.alloc _ _), Old.upd _ _ _⟩
  · exact .oslice nx 0 need esz newCap 0 _ (upd_same _ _ _) hcap (by simp) (.inl rfl)
  · refine HR.alloc (w := w.drew) hR.drew hf hup ?_
    simp only [OR]
    refine ⟨by simpa using hN, by simpa using hle, by simp, fun i v hi => ?_⟩
    rw [cellOf_eq] at hi
    split at hi
    · rw [get_rowOf] at hi
      rename_i hlt
      rw [List.getElem?_eq_getElem (by omega)] at hi
      simp at hi
      obtain ⟨u, hu, hr⟩ := hv.get i v (by rw [List.getElem?_eq_getElem (by omega), hi])
      refine ⟨u, ?_, hr.ext hext⟩
      have hiv : i < vs.length := by omega
      simp only [Nat.zero_add, List.getElem?_toArray]
      rw [List.getElem?_append_left hiv]; exact hu
    · simp at hi

theorem growA_ok (hR : HR ρ γ own hp w) (hf : Fresh γ nx) (hup : Up own w) {esz need newCap : Nat} {old new : List AV} {old' new' rest : List Value} {v : AV} {hp' : Heap} {nx' : Nat}
    (h : growA hp nx esz need old new = some (v, hp', nx')) (ho : VRs ρ γ old old') (hn : VRs ρ γ new new') (hcap : need ≤ newCap) (hrest : rest.length = (newCap - need) * esz) (e : TypeId) :
    ∃ γ', Left ρ γ own w nx v hp' nx' γ' (.slice (some ⟨w.heap.size, 0, none⟩) need newCap) (w.drew.alloc (.cells ⟨old' ++ new' ++ rest⟩ e)) := by
  simp only [growA, og_some] at h
  obtain ⟨h1, _, h2⟩ := h
  injection h2 with h2; injection h2 with h3 h4; injection h4 with h4 h5; subst h3; subst h4; subst h5
  have h1 := beq_iff.1 h1
  exact grow_left hR hf hup (ho.append hn) (by simpa using h1) hcap hrest e

theorem append_ok (hE : EnvOk P E) (hR : HR ρ γ own hp w) (hf : Fresh γ nx) (hup : Up own w) {st xt : Nat} {s x v : AV} {s' x' : Value} {hp' : Heap} {nx' : Nat} (hs : VR ρ γ s s') (hx : VR ρ γ x x')
    (h : appendA E hp nx st xt s x = some (v, hp', nx')) (ats : Array TypeId) (ty : TypeId) (xs : Array Value) (h0 : ats[0]? = some st) (h1 : ats[1]? = some xt) (h2 : xs[0]? = some s') (h3 : xs[1]? = some x') :
    ∃ v' w' γ', (Builtin.append_ ats ty xs).run P w = .ok v' w' ∧ Left ρ γ own w nx v hp' nx' γ' v' w' := by
  simp only [appendA, ob_some, og_some, TyI.slice?_some] at h
  obtain ⟨si, hsi, e, hd, ei, hei, hsz, hb, ⟨n, new⟩, hsrc, hone, hnl, z, hz, hzl, h⟩ := h
  have hzl := beq_iff.1 hzl
  have hb := ble_iff.1 hb
  have hnl := beq_iff.1 hnl
  have hsz : ei.size ≠ 0 := by intro h0; simp [h0] at hsz
  simp only [Nat.mul_eq] at hnl
  obtain ⟨sd, hs1, hs2⟩ := (hE.tys _ _ hsi).run_underlying
  rw [hd] at hs1
  cases sd <;> simp only [DOk] at hs1
  subst hs1
  cases s <;> simp only at h <;> try (simp at h; done)
  case nilSlice =>
    cases hs
    obtain ⟨new', hn', hin, hout⟩ := append_run hE hei hs2 hb hz hzl hsz hx hsrc ats ty xs h0 h1 h2 h3 hR
    rw [bc_eq] at h
    split at h
    · rename_i hn0
      have hn0 : n = 0 := beq_iff.1 hn0
      subst hn0
      injection h with h; injection h with e1 e2; injection e2 with e2 e3; subst e1; subst e2; subst e3
      exact ⟨_, w, γ, hin (by omega) w rfl, Ext.refl _, .nilSlice, hR, hf, Nat.le_refl _, Fr.refl _ _, Old.refl _ _⟩
    · rename_i hn0
      have hn0 : n ≠ 0 := fun hh => hn0 (beq_iff.2 hh)
      have hneed : n ≤ 1000000 := by
        simp only [growA, og_some] at h; exact ble_iff.1 h.2.1
      obtain ⟨newCap, rest, g1, g2, g3⟩ := hout (by omega) (by omega) [] (fun w1 _ => rfl)
      simp only [Nat.zero_add, List.nil_append] at g1 g2 g3
      obtain ⟨γ', hl⟩ := growA_ok hR hf hup h .nil hn' g1 g2 _
      exact ⟨_, _, γ', g3, hl⟩
  case slice b off len cap =>
    cases hs with
    | slice _ _ _ _ o g hg hlc ho =>
      obtain ⟨new', hn', hin, hout⟩ := append_run hE hei hs2 hb hz hzl hsz hx hsrc ats ty xs h0 h1 h2 h3 hR
      rw [bc_eq] at h
      split at h
      · rename_i hle
        have hle := ble_iff.1 hle
        simp only [Nat.add_eq] at hle
        simp only [ob_some] at h
        obtain ⟨hp1, hw1, he⟩ := h
        injection he with h; injection h with e1 e2; injection e2 with e2 e3; subst e1; subst e2; subst e3
        simp only [Nat.add_eq, Nat.mul_eq] at hw1 ⊢
        by_cases hn0 : n = 0
        · subst hn0
          have hne : new = [] := by rw [← List.length_eq_zero_iff, hnl]; simp
          subst hne
          cases hn'
          refine ⟨_, w, γ, hin hle w (by simp [storeCells]), Ext.refl _, .slice b off _ cap o g hg hle ho, ?_, hf, Nat.le_refl _, Fr.refl _ _, Old.refl _ _⟩
          refine hR.weaken (fun c y hc => ?_)
          simp only [writeAt, ob_some, og_some, AObj.cells?_some] at hw1
          obtain ⟨o0, ho0, ⟨t, z0, k⟩, rfl, _, _, he⟩ := hw1
          injection he with he; subst he
          rw [PT.get_put] at hc
          split at hc
          · rename_i hbc; subst hbc
            injection hc with hc; subst hc
            simpa [putCells] using ho0
          · exact hc
        · have ho := ho.resolve_right (by omega)
          subst ho
          obtain ⟨w2, hst, hR2, hfr2⟩ := writeAt_ok (P := P) hR hw1 hn' hg
          refine ⟨_, w2, γ, hin hle w2 ?_, Ext.refl _, .slice b off _ cap _ g hg hle (.inl rfl), hR2, hf, Nat.le_refl _, hfr2, Old.refl _ _⟩
          simp only [add_none]
          rw [Nat.add_assoc]
          exact hst
      · rename_i hle
        have hle : cap < len + n := by
          rcases Nat.lt_or_ge cap (len + n) with h | h
          · exact h
          · exact absurd (ble_iff.2 (by simpa using h)) hle
        simp only [ob_some, Nat.add_eq, Nat.mul_eq] at h
        obtain ⟨old, hold, h⟩ := h
        have hneed : len + n ≤ 1000000 := by
          simp only [growA, og_some] at h; exact ble_iff.1 h.2.1
        have hsv : VR ρ γ (.slice b off len cap) (.slice (some ⟨g.blk, o, none⟩) len cap) := .slice b off len cap o g hg hlc ho
        obtain ⟨old', ho1, ho2⟩ := first_ok (P := P) (n := len) (m := len) hR hsv (by simpa [firstA] using hold) rfl (Nat.le_refl _)
        obtain ⟨newCap, rest, g1, g2, g3⟩ := hout hle (by omega) old' ho1
        obtain ⟨γ', hl⟩ := growA_ok hR hf hup h ho2 hn' g1 g2 _
        exact ⟨_, _, γ', g3, hl⟩
  case oslice b off len esz =>
    simp only [og_some, ob_some, AObj.cells?_some] at h
    obtain ⟨hesz, ob0, hob, ⟨t, z0, k⟩, rfl, h⟩ := h
    have hesz := beq_iff.1 hesz
    subst hesz
    have hs0 := hs
    cases hs with
    | oslice _ _ _ _ c o g hg hlc hN ho =>
      obtain ⟨new', hn', hin, hout⟩ := append_run hE hei hs2 hb hz hzl hsz hx hsrc ats ty xs h0 h1 h2 h3 hR
      obtain ⟨g', o', hg', hown, hw, hor0⟩ := hR.obj b _ hob
      rw [hg] at hg'; injection hg' with hg'; subst hg'
      have hor := hor0
      cases o' <;> simp only [OR] at hor
      rename_i cc ce fz
      obtain ⟨hcN, hδk, hfz, hcell⟩ := hor
      rw [bc_eq] at h
      split at h
      · rename_i hn0
        have hn0 : n = 0 := beq_iff.1 hn0
        subst hn0
        injection h with h; injection h with e1 e2; injection e2 with e2 e3; subst e1; subst e2; subst e3
        have hne : new = [] := by rw [← List.length_eq_zero_iff, hnl]; simp
        subst hne
        cases hn'
        exact ⟨_, w, γ, hin (by omega) w (by simp [storeCells]), Ext.refl _, hs0, hR, hf, Nat.le_refl _, Fr.refl _ _, Old.refl _ _⟩
      · rename_i hn0
        have hn0 : n ≠ 0 := fun hh => hn0 (beq_iff.2 hh)
        -- the cells of the old elements, as the model has them
        have hlen0 : len * ei.size ≤ c * ei.size := Nat.mul_le_mul_right _ hlc
        have hold : ∀ w1 : World, w1.heap = w.heap → (Builtin.firstCells ei.size len (.slice (some ⟨g.blk, o, none⟩) len c)).run P w1 = .ok ⟨(cc.toList.drop (g.δ + off)).take (len * ei.size)⟩ w1 := by
          intro w1 hw1
          simp only [Builtin.firstCells]
          have hll : ((cc.toList.drop (g.δ + off)).take (len * ei.size)).length = len * ei.size := by simp; omega
          by_cases hl0 : len = 0
          · subst hl0; simp [loadCells, loadCellsFrom]
          · have ho := ho.resolve_right (by omega)
            subst ho
            have := run_loadCells_of (P := P) (w := w1) (b := g.blk) (o := g.δ + off) (a := ⟨g.blk, g.δ + off, none⟩) (vs := (cc.toList.drop (g.δ + off)).take (len * ei.size)) rfl (by
              intro j v hj
              rw [List.getElem?_take] at hj
              split at hj
              · simp only [World.cell?, hw1, hw]
                simpa using hj
              · simp at hj)
            rw [hll] at this
            exact this
        rw [bc_eq] at h
        split at h
        · -- there is room for certain
          rename_i hroom
          have hroom := ble_iff.1 hroom
          simp only [Nat.add_eq, Nat.mul_eq] at hroom
          injection h with h; injection h with e1 e2; injection e2 with e2 e3; subst e1; subst e2; subst e3
          have hc : len + n ≤ c := by
            have : (len + n) * ei.size ≤ c * ei.size := by omega
            exact Nat.le_of_mul_le_mul_right this (by omega)
          have ho := ho.resolve_right (by omega)
          subst ho
          have hwa : writeAt hp b (off + len * ei.size) new = some (hp.put b (.cells (putCells new t (off + len * ei.size)) z0 k)) := by
            simp only [writeAt, ob_some, og_some, AObj.cells?_some]
            refine ⟨_, hob, ⟨t, z0, k⟩, rfl, ble_iff.2 ?_, hone, rfl⟩
            rw [hnl]; simp only [Nat.add_eq]; rw [Nat.add_assoc, ← Nat.add_mul]; exact hroom
          obtain ⟨w2, hst, hR2, hfr2⟩ := writeAt_ok (P := P) hR hwa hn' hg
          refine ⟨_, w2, γ, hin hc w2 ?_, Ext.refl _, .oslice b off (len + n) _ c _ g hg hc hN (.inl rfl), hR2, hf, Nat.le_refl _, hfr2, Old.refl _ _⟩
          simp only [add_none]
          rw [Nat.add_assoc]
          exact hst
        · -- whether there is room is not known
          rename_i hroom
          have hoc : VRs ρ γ new new' := hn'
          have key : ∃ T, (v, hp', nx') = (AV.oslice nx 0 (len + n) ei.size, (hp.del b).put nx (.cells T [] ((len + n) * ei.size)), nx + 1) ∧ len + n ≤ 1000000 ∧
              ∀ i u, i < (len + n) * ei.size → T.get i = some u → ∃ u', ((cc.toList.drop (g.δ + off)).take (len * ei.size) ++ new')[i]? = some u' ∧ VR ρ γ u u' := by
            have hol : ((cc.toList.drop (g.δ + off)).take (len * ei.size)).length = len * ei.size := by simp; omega
            rw [bc_eq] at h
            split at h
            · rename_i hoff
              simp only [Bool.and_eq_true, beq_iff, List.isEmpty_iff] at hoff
              obtain ⟨rfl, rfl⟩ := hoff
              simp only [og_some, Nat.add_eq, Nat.mul_eq] at h
              obtain ⟨hk1, hk2, he⟩ := h
              have hk1 := ble_iff.1 hk1
              refine ⟨_, by injection he with he; exact he.symm, ble_iff.1 hk2, fun i u hi hu => ?_⟩
              rw [get_putCells] at hu
              by_cases hin : len * ei.size ≤ i ∧ i < len * ei.size + new.length
              · rw [if_pos hin] at hu
                rw [List.getElem?_append_right (by omega), hol]
                exact hoc.get _ _ hu
              · rw [if_neg hin] at hu
                have : (len + n) * ei.size = len * ei.size + n * ei.size := Nat.add_mul _ _ _
                have hil : i < len * ei.size := by omega
                obtain ⟨u', hu1, hu2⟩ := hcell i u (by rw [cellOf_eq, if_pos (by omega), hu])
                refine ⟨u', ?_, hu2⟩
                rw [List.getElem?_append_left (by omega), List.getElem?_take, if_pos hil, List.getElem?_drop]
                simpa using hu1
            · simp only [ob_some, Nat.add_eq, Nat.mul_eq] at h
              obtain ⟨old, hold2, h⟩ := h
              simp only [growA, og_some] at h
              obtain ⟨h4, h5, h6⟩ := h
              have h4 := beq_iff.1 h4
              simp only [Nat.add_eq, Nat.mul_eq] at h4 h6
              refine ⟨_, by injection h6 with h6; exact h6.symm, ble_iff.1 h5, fun i u hi hu => ?_⟩
              rw [get_rowOf] at hu
              obtain ⟨hl1, hl2⟩ := cellsFrom_spec _ _ _ _ _ _ hold2
              by_cases hil : i < len * ei.size
              · rw [List.getElem?_append_left (by omega)] at hu
                obtain ⟨u', hu1, hu2⟩ := hcell _ _ (hl2 i u hu)
                refine ⟨u', ?_, hu2⟩
                rw [List.getElem?_append_left (by omega), List.getElem?_take, if_pos hil, List.getElem?_drop]
                rw [show g.δ + off + i = g.δ + (off + i) by omega]
                simpa using hu1
              · rw [List.getElem?_append_right (by omega)] at hu
                rw [List.getElem?_append_right (by omega), hol]
                rw [hl1] at hu
                exact hoc.get _ _ hu
          obtain ⟨T, he, hneed, hT⟩ := key
          injection he with e1 e2; injection e2 with e2 e3; subst e1; subst e2; subst e3
          have hadd : (len + n) * ei.size = len * ei.size + n * ei.size := Nat.add_mul _ _ _
          have hnl' := hoc.length
          have hol : ((cc.toList.drop (g.δ + off)).take (len * ei.size)).length = len * ei.size := by simp; omega
          by_cases hin2 : len + n ≤ c
          · -- in place
            have ho := ho.resolve_right (by omega)
            subst ho
            have hmc : (len + n) * ei.size ≤ c * ei.size := Nat.mul_le_mul_right _ hin2
            obtain ⟨w2, hst, hwr⟩ := run_storeCells (P := P) (blk := g.blk) (o := g.δ + off + len * ei.size) new' 0 w cc ce fz hw (by omega) (fun k _ => hfz k) (hoc.ones hone)
            obtain ⟨c', hc', hsz', hcell'⟩ := hwr.same _ _ _ hw
            have hext := upd_ext (nx := nx) hf ⟨g.blk, g.δ + off, g.N⟩
            refine ⟨_, w2, upd γ nx ⟨g.blk, g.δ + off, g.N⟩, hin hin2 w2 (by simp only [add_none]; exact hst), hext, ?_, ?_, upd_fresh hf _, Nat.le_succ _, hwr.fr hown, Old.upd _ _ _⟩
            · exact .oslice nx 0 (len + n) _ c _ ⟨g.blk, g.δ + off, g.N⟩ (upd_same _ _ _) hin2 (by simpa using hN) (.inl (by simp))
            · refine hR.move (g' := ⟨g.blk, g.δ + off, g.N⟩) hf ⟨_, hob⟩ hg rfl hc' hwr.other ?_
              simp only [OR]
              refine ⟨by rw [hsz']; exact hcN, by omega, hfz, fun i u hi => ?_⟩
              rw [cellOf_eq] at hi
              split at hi
              · rename_i hlt
                cases hgi : T.get i with
                | none => simp [hgi] at hi
                | some u0 =>
                  simp [hgi] at hi; subst hi
                  obtain ⟨u', hu1, hu2⟩ := hT i _ hlt hgi
                  refine ⟨u', ?_, hu2.ext hext⟩
                  have hce := hcell' (g.δ + off + i)
                  simp only [Nat.add_zero] at hce
                  rw [hce]
                  by_cases hil : i < len * ei.size
                  · rw [if_neg (by omega)]
                    rw [List.getElem?_append_left (by omega), List.getElem?_take, if_pos hil, List.getElem?_drop] at hu1
                    simpa using hu1
                  · rw [if_pos (by omega)]
                    rw [List.getElem?_append_right (by omega), hol] at hu1
                    rw [show g.δ + off + i - (g.δ + off + len * ei.size) = i - len * ei.size by omega]
                    exact hu1
              · simp at hi
          · -- a new row
            obtain ⟨newCap, rest, g1, g2, g3⟩ := hout (by omega) (by omega) _ hold
            have hext := upd_ext (nx := nx) hf ⟨w.heap.size, 0, newCap * ei.size⟩
            have hNl : ((cc.toList.drop (g.δ + off)).take (len * ei.size) ++ new' ++ rest).length = newCap * ei.size := by
              rw [List.length_append, List.length_append, hol, ← hnl', hnl, g2, ← hadd, ← Nat.add_mul]; congr 1; omega
            refine ⟨_, _, upd γ nx ⟨w.heap.size, 0, newCap * ei.size⟩, g3, hext, ?_, ?_, upd_fresh hf _, Nat.le_succ _, (Fr.drew w).trans (Fr.alloc _ _), Old.upd _ _ _⟩
            · exact .oslice nx 0 (len + n) _ newCap 0 _ (upd_same _ _ _) g1 (by simp) (.inl rfl)
            · refine HR.alloc (w := w.drew) (hR.drew.weaken (hp' := hp.del b) (fun x y hxy => ?_)) hf hup ?_
              · rw [PT.get_del] at hxy
                split at hxy
                · simp at hxy
                · exact hxy
              simp only [OR]
              have hmc : (len + n) * ei.size ≤ newCap * ei.size := Nat.mul_le_mul_right _ g1
              refine ⟨by simpa using hNl, by simpa using hmc, by simp, fun i u hi => ?_⟩
              rw [cellOf_eq] at hi
              split at hi
              · rename_i hlt
                cases hgi : T.get i with
                | none => simp [hgi] at hi
                | some u0 =>
                  simp [hgi] at hi; subst hi
                  obtain ⟨u', hu1, hu2⟩ := hT i _ hlt hgi
                  refine ⟨u', ?_, hu2.ext hext⟩
                  simp only [Nat.zero_add, List.getElem?_toArray]
                  rw [List.getElem?_append_left (by rw [List.length_append, hol, ← hnl', hnl]; omega)]
                  exact hu1
              · simp at hi
end
end
end Go.Ev
