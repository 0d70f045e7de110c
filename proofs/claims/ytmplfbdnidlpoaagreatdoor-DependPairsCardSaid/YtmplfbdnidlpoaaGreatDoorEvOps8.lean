/- Loud operations. -/
import Derived.Test.YtmplfbdnidlpoaaGreatDoorEvApp2
namespace Go.Ev
noncomputable section

section
variable {ρ : Nat → Value} {γ : G} {P : Program} {E : Env} {w : World} {own : Nat → Prop} {hp : Heap} {nx : Nat}

theorem copy_ok (hE : EnvOk P E) (hR : HR ρ γ own hp w) {st n : Nat} {d x : AV} {d' x' : Value} {hp' : Heap} (hd : VR ρ γ d d') (hx : VR ρ γ x x')
    (h : copyA E hp st d x = some (n, hp')) (ats : Array TypeId) (ty : TypeId) (xs : Array Value) (h0 : ats[0]? = some st) (h1 : xs[0]? = some d') (h2 : xs[1]? = some x') :
    ∃ w', (Builtin.copy_ ats ty xs).run P w = .ok (.int .i64 n) w' ∧ HR ρ γ own hp' w' ∧ Fr own w w' := by
  simp only [copyA, ob_some, TyI.slice?_some, sizeA] at h
  obtain ⟨si, hsi, e, hdd, sz, ⟨ei, hei, hs⟩, dl, hdl, xl, hxl, cs, hcs, h⟩ := h
  injection hs with hs; subst hs
  obtain ⟨sd, hs1, hs2⟩ := (hE.tys _ _ hsi).run_underlying
  rw [hdd] at hs1
  cases sd <;> simp only [DOk] at hs1
  subst hs1
  have hei' := hE.tys _ _ hei
  obtain ⟨vs, hv1, hv2⟩ := first_ok (P := P) hR hx hcs hxl (Nat.min_le_left _ _)
  have hln := seqLen_ok (P := P) (w := w) hx hxl
  cases d <;> simp only at h <;> try (simp at h; done)
  case nilSlice =>
    injection h with h; injection h with e1 e2; subst e1; subst e2
    cases hd
    simp only [seqLen] at hdl
    injection hdl with hdl; subst hdl
    refine ⟨w, ?_, hR, Fr.refl _ _⟩
    simp only [Builtin.copy_, h0, h1, h2, Sem.run_bind, hs2, Result.andThen_ok, hln, hei'.run_sizeOf, hv1 w rfl, goInt, Sem.run_pure]
  case slice b off len cap =>
    simp only [ob_some] at h
    obtain ⟨hp1, hw1, he⟩ := h
    injection he with h; injection h with e1 e2; subst e1; subst e2
    simp only [seqLen] at hdl
    injection hdl with hdl; subst hdl
    cases hd with
    | slice _ _ _ _ o g hg hlc ho =>
      rcases ho with ho | ho
      · subst ho
        obtain ⟨w2, hst, hR2, hfr2⟩ := writeAt_ok (P := P) hR hw1 hv2 hg
        refine ⟨w2, ?_, hR2, hfr2⟩
        simp [Builtin.copy_, h0, h1, h2, hs2, hln, hei'.run_sizeOf, hv1 w rfl, goInt, hst]
      · subst ho
        have hl0 : len = 0 := by omega
        subst hl0
        have hce : cs = [] ∧ vs = [] := by
          have hm : Nat.min xl 0 = 0 := Nat.min_zero xl
          rw [hm] at hcs
          cases x <;> simp only [firstA] at hcs <;> try (simp at hcs; done)
          case nilSlice => injection hcs with hcs; subst hcs; cases hv2; exact ⟨rfl, rfl⟩
          case str => injection hcs with hcs; simp [u8s] at hcs; subst hcs; cases hv2; exact ⟨rfl, rfl⟩
          all_goals
            simp only [readAt, ob_some, Nat.mul_eq, Nat.zero_mul] at hcs
            obtain ⟨_, _, _, _, hcs⟩ := hcs
            simp [cellsFrom] at hcs; subst hcs; cases hv2; exact ⟨rfl, rfl⟩
        obtain ⟨rfl, rfl⟩ := hce
        refine ⟨w, ?_, ?_, Fr.refl _ _⟩
        · simp only [Builtin.copy_, h0, h1, h2, Sem.run_bind, hs2, Result.andThen_ok, hln, hei'.run_sizeOf, hv1 w rfl, goInt, storeCells, Sem.run_pure]
        · obtain ⟨w2, hst, hR2, hfr2⟩ := writeAt_ok (P := P) hR hw1 (.nil) hg
          simp [storeCells] at hst
          rw [hst]; exact hR2
  case oslice b off len esz =>
    simp only [ob_some] at h
    obtain ⟨hp1, hw1, he⟩ := h
    injection he with h; injection h with e1 e2; subst e1; subst e2
    simp only [seqLen] at hdl
    injection hdl with hdl; subst hdl
    cases hd with
    | oslice _ _ _ _ c o g hg hlc hN ho =>
      rcases ho with ho | ho
      · subst ho
        obtain ⟨w2, hst, hR2, hfr2⟩ := writeAt_ok (P := P) hR hw1 hv2 hg
        refine ⟨w2, ?_, hR2, hfr2⟩
        simp [Builtin.copy_, h0, h1, h2, hs2, hln, hei'.run_sizeOf, hv1 w rfl, goInt, hst]
      · subst ho
        have hl0 : len = 0 := by omega
        subst hl0
        have hce : cs = [] ∧ vs = [] := by
          have hm : Nat.min xl 0 = 0 := Nat.min_zero xl
          rw [hm] at hcs
          cases x <;> simp only [firstA] at hcs <;> try (simp at hcs; done)
          case nilSlice => injection hcs with hcs; subst hcs; cases hv2; exact ⟨rfl, rfl⟩
          case str => injection hcs with hcs; simp [u8s] at hcs; subst hcs; cases hv2; exact ⟨rfl, rfl⟩
          all_goals
            simp only [readAt, ob_some, Nat.mul_eq, Nat.zero_mul] at hcs
            obtain ⟨_, _, _, _, hcs⟩ := hcs
            simp [cellsFrom] at hcs; subst hcs; cases hv2; exact ⟨rfl, rfl⟩
        obtain ⟨rfl, rfl⟩ := hce
        refine ⟨w, ?_, ?_, Fr.refl _ _⟩
        · simp only [Builtin.copy_, h0, h1, h2, Sem.run_bind, hs2, Result.andThen_ok, hln, hei'.run_sizeOf, hv1 w rfl, goInt, storeCells, Sem.run_pure]
        · obtain ⟨w2, hst, hR2, hfr2⟩ := writeAt_ok (P := P) hR hw1 (.nil) hg
          simp [storeCells] at hst
          rw [hst]; exact hR2

theorem store_ok (hE : EnvOk P E) (hR : HR ρ γ own hp w) {t : Nat} {p v : AV} {p' v' : Value} {hp' : Heap} (hp0 : VR ρ γ p p') (hv : VR ρ γ v v') (h : storeA E hp t p v = some hp') :
    ∃ w', (Instr.storeAt t p' v').run P w = .ok () w' ∧ HR ρ γ own hp' w' ∧ Fr own w w' := by
  simp only [storeA, ob_some, AV.ptr?_some, og_some] at h
  obtain ⟨⟨b, off⟩, rfl, ti, hti, hl, hw⟩ := h
  have hl := beq_iff.1 hl
  have hone : allOne v.cells = true := by
    simp only [writeAt, ob_some, og_some] at hw
    obtain ⟨_, _, _, _, _, h, _⟩ := hw; exact h
  have hvs := hv.cells hone
  cases hp0 with
  | ptr _ _ g hg =>
    obtain ⟨w2, hst, hR2, hfr2⟩ := writeAt_ok (P := P) hR hw hvs hg
    refine ⟨w2, ?_, hR2, hfr2⟩
    have hsz : v'.cells.size = ti.size := by rw [← hl]; simpa using hvs.length.symm
    simp [Instr.storeAt, Instr.sureAddr, storeVar, hsz, (hE.tys _ _ hti).run_sizeOf, hst]

theorem run_setObj {r : Nat} {es : Array MapEntry} {clock : Nat} (h : w.heap[r]? = some (.map es clock)) (o : Obj) : (setObj r o).run P w = .ok () { w with heap := w.heap.setIfInBounds r o } := by
  simp [setObj, Sem.run, h]

theorem setObj_fr {r : Nat} (o : Obj) (ho : own r) : Fr own w { w with heap := w.heap.setIfInBounds r o } := by
  refine ⟨rfl, rfl, rfl, by simp, fun k hk hn => ?_⟩
  simp only
  rw [Array.getElem?_setIfInBounds_ne]
  intro hh; subst hh; exact hn ho

theorem setObj_same {r : Nat} (o : Obj) (h : r < w.heap.size) : ({ w with heap := w.heap.setIfInBounds r o } : World).heap[r]? = some o := by
  simp [h]
theorem setObj_other {r k : Nat} (o : Obj) (h : k ≠ r) : ({ w with heap := w.heap.setIfInBounds r o } : World).heap[k]? = w.heap[k]? := by
  simp only
  rw [Array.getElem?_setIfInBounds_ne (fun hh => h hh.symm)]

theorem HR.turnMap (hR : HR ρ γ own hp w) {b : Nat} {es es2 : List (AV × AV × Nat)} {clock c2 : Nat} (h : hp.get b = some (.map es clock)) {g : Blk} (hg : γ b = some g) {es' : Array MapEntry}
    (he : ER ρ γ es2 es'.toList) : HR ρ γ own (hp.put b (.map es2 c2)) { w with heap := w.heap.setIfInBounds g.blk (.map es' c2) } := by
  refine hR.turn ⟨_, h⟩ hg (setObj_same _ (hR.lt h hg)) (fun k hk => setObj_other _ hk) ?_
  exact ⟨rfl, he⟩

theorem setNth_eq {α : Type} : ∀ (l : List α) (n : Nat) (x : α), setNth l n x = l.set n x
  | [], _, _ => by simp [setNth]
  | a :: as, n, x => by
    simp only [setNth, bc_eq, setNth_eq as]
    cases n with
    | zero => simp
    | succ n => simp
theorem dropNth_eq {α : Type} : ∀ (l : List α) (n : Nat), dropNth l n = l.eraseIdx n
  | [], _ => by simp [dropNth]
  | a :: as, n => by
    simp only [dropNth, bc_eq, dropNth_eq as]
    cases n with
    | zero => simp
    | succ n => simp

theorem eqBytes_spec : ∀ {s t : List Nat}, eqBytes s t = true → s = t
  | [], [], _ => rfl
  | [], _ :: _, h => by simp [eqBytes] at h
  | _ :: _, [], h => by simp [eqBytes] at h
  | a :: s, b :: t, h => by
    simp only [eqBytes, bc_eq] at h
    split at h
    · rename_i hab; rw [beq_iff.1 hab, eqBytes_spec h]
    · simp at h

theorem findA_at {k : AV} : ∀ {es : List (AV × AV × Nat)} {i : Nat} {p : Nat × AV}, findA k es i = some (some p) → ∃ e, es[p.1 - i]? = some e ∧ i ≤ p.1 ∧ keyEq k e.1 = some true
  | [], i, p, h => by simp [findA] at h
  | e :: es, i, p, h => by
    simp only [findA, ob_some] at h
    obtain ⟨c, hc, h⟩ := h
    cases c with
    | true =>
      simp only [bc_true] at h; injection h with h; injection h with h; subst h
      exact ⟨e, by simp, Nat.le_refl _, hc⟩
    | false =>
      simp only [bc_false] at h
      obtain ⟨e', h1, h2, h3⟩ := findA_at h
      simp only [Nat.add_eq] at h1 h2
      exact ⟨e', by rw [show p.1 - i = (p.1 - (i + 1)) + 1 by omega]; simpa using h1, by omega, h3⟩

theorem keyEq_same {k k0 : AV} {v v0 : Value} (h : keyEq k k0 = some true) (h1 : VR ρ γ k v) (h2 : VR ρ γ k0 v0) : v0 = v ∧ Instr.sameBits 10000 v0 v = true := by
  unfold keyEq at h
  split at h
  · simp only [og_some, eqKind_eq, eqInt_eq, decide_eq_true_eq] at h
    obtain ⟨rfl, h⟩ := h
    simp at h; subst h
    cases h1; cases h2
    exact ⟨rfl, by simp [Instr.sameBits]⟩
  · injection h with h
    have := eqBytes_spec h
    subst this
    cases h1; cases h2
    exact ⟨rfl, by simp only [Instr.sameBits]; rw [beq_toListBytes]; exact beq_self_eq_true _⟩
  · simp at h

theorem mapUpdate_ok (hE : EnvOk P E) (hR : HR ρ γ own hp w) {t : Nat} {m k v : AV} {m' k' v' : Value} (hm : VR ρ γ m m') (hk : VR ρ γ k k') (hv : VR ρ γ v v') {r : OpR}
    (h : opMapUpdate E t hp nx m k v = some r) : ∃ hp' w', r = .val (.tup []) hp' nx ∧ (Instr.mapUpdate t m' k' v').run P w = .ok () w' ∧ HR ρ γ own hp' w' ∧ Fr own w w' := by
  simp only [opMapUpdate, ob_some, TyI.map?_some, og_some, AV.map?_some, AObj.map?_some] at h
  obtain ⟨ti, hti, ⟨kt, e⟩, hd, hkt, b, rfl, o, ho, ⟨es, clock⟩, rfl, q, hq, h⟩ := h
  have hu := map_ty (P := P) (p := (kt, e)) hE ⟨ti, hti, hd⟩
  simp only at hd hkt hq
  cases hm with
  | map _ g hg =>
    obtain ⟨es', hw, her, hown⟩ := hR.map ho hg
    obtain ⟨q', hf, hqq⟩ := findKey_ok (w := w) hE hkt hk hq her
    have hlt := hR.lt ho hg
    have hl : es.length = es'.toList.length := her.1
    cases q with
    | none =>
      cases q' with
      | some _ => exact hqq.elim
      | none =>
        simp only [oc_none] at h
        injection h with h; subst h
        refine ⟨_, { w with heap := w.heap.setIfInBounds g.blk (.map (es'.push { key := k', val := v', born := clock }) (clock + 1)) }, rfl, ?_, ?_, setObj_fr _ hown⟩
        · simp [Instr.mapUpdate, hu, run_getObj_map hw, checkKey_ok hE hkt hk, hf, run_setObj hw]
        · refine hR.turnMap ho hg ⟨by simp [hl], fun i a c d hi => ?_⟩
          rw [List.getElem?_append] at hi
          simp only [Array.toList_push]
          split at hi
          · rename_i hlt2
            obtain ⟨x, hx, hx2⟩ := her.2 i a c d hi
            exact ⟨x, by rw [List.getElem?_append_left (by omega)]; exact hx, hx2⟩
          · rename_i hlt2
            have hi0 : i - es.length = 0 := by
              rcases Nat.eq_zero_or_pos (i - es.length) with h | h
              · exact h
              · rw [List.getElem?_eq_none (by simp; omega)] at hi; simp at hi
            rw [hi0] at hi
            simp at hi
            obtain ⟨rfl, rfl, rfl⟩ := hi
            exact ⟨_, by rw [List.getElem?_append_right (by omega), ← hl, hi0]; rfl, hk, hv, rfl⟩
    | some p =>
      cases q' with
      | none => exact hqq.elim
      | some p' =>
        obtain ⟨hp1, hp2, hp3⟩ := hqq
        simp only [oc_some, ob_some, nth_eq] at h
        obtain ⟨e0, he0, h⟩ := h
        injection h with h; subst h
        obtain ⟨x0, hx0, hx1, hx2, hx3⟩ := her.2 p.1 e0.1 e0.2.1 e0.2.2 he0
        obtain ⟨e1, he1, _, hke⟩ := findA_at hq
        simp only [Nat.sub_zero] at he1
        rw [he0] at he1; injection he1 with he1; subst he1
        obtain ⟨hk1, hk2⟩ := keyEq_same hke hk hx1
        refine ⟨_, { w with heap := w.heap.setIfInBounds g.blk (.map (es'.modify p.1 fun e => { e with key := k', val := v' }) clock) }, rfl, ?_, ?_, setObj_fr _ hown⟩
        · have hget : es'[p'.1]? = some x0 := by rw [hp1]; simpa using hx0
          simp only [Instr.mapUpdate, Sem.run_bind, hu, Result.andThen_ok, run_getObj_map hw, checkKey_ok hE hkt hk, hf, hget, Option.map_some, Option.getD_some, Instr.keyThatStays, hk2, if_true, Sem.run_pure]
          rw [hp1]
          exact run_setObj hw _
        · refine hR.turnMap ho hg ⟨by simp [setNth_eq, hl], fun i a c d hi => ?_⟩
          rw [setNth_eq, List.getElem?_set] at hi
          split at hi
          · rename_i hpi
            subst hpi
            injection hi with hi; injection hi with i1 i2; injection i2 with i2 i3; subst i1; subst i2; subst i3
            refine ⟨{ x0 with key := k', val := v' }, ?_, hk, hv, hx3⟩
            have : es'[p.1]? = some x0 := by simpa using hx0
            simp [this]
          · rename_i hpi
            obtain ⟨x, hx, hx2⟩ := her.2 i a c d hi
            refine ⟨x, ?_, hx2⟩
            have : es'[i]? = some x := by simpa using hx
            simp [this, hpi]

theorem delete_ok (hE : EnvOk P E) (hR : HR ρ γ own hp w) {t : Nat} {m k : AV} {m' k' : Value} (hm : VR ρ γ m m') (hk : VR ρ γ k k') {r : OpR}
    (h : opDelete E t hp nx m k = some r) (ats : Array TypeId) (ty : TypeId) (xs : Array Value) (h0 : ats[0]? = some t) (h1 : xs[0]? = some m') (h2 : xs[1]? = some k') :
    ∃ hp' w', r = .val (.tup []) hp' nx ∧ (Builtin.delete_ ats ty xs).run P w = .ok (.tuple #[]) w' ∧ HR ρ γ own hp' w' ∧ Fr own w w' := by
  simp only [opDelete, ob_some, TyI.map?_some, og_some, AV.map?_some, AObj.map?_some] at h
  obtain ⟨ti, hti, ⟨kt, e⟩, hd, hkt, b, rfl, o, ho, ⟨es, clock⟩, rfl, q, hq, h⟩ := h
  have hu := map_ty (P := P) (p := (kt, e)) hE ⟨ti, hti, hd⟩
  simp only at hd hkt hq
  cases hm with
  | map _ g hg =>
    obtain ⟨es', hw, her, hown⟩ := hR.map ho hg
    obtain ⟨q', hf, hqq⟩ := findKey_ok (w := w) hE hkt hk hq her
    have hlt := hR.lt ho hg
    have hl : es.length = es'.toList.length := her.1
    cases q with
    | none =>
      cases q' with
      | some _ => exact hqq.elim
      | none =>
        simp only [oc_none] at h
        injection h with h; subst h
        refine ⟨_, { w with heap := w.heap.setIfInBounds g.blk (.map es' clock) }, rfl, ?_, ?_, setObj_fr _ hown⟩
        · simp [Builtin.delete_, h0, h1, h2, hu, run_getObj_map hw, checkKey_ok hE hkt hk, hf, run_setObj hw]
        · refine hR.stay (fun c y g2 hc hg2 => ?_)
          by_cases hb : g2.blk = g.blk
          · rw [hb, setObj_same _ hlt, hw]
          · rw [setObj_other _ hb]
    | some p =>
      cases q' with
      | none => exact hqq.elim
      | some p' =>
        obtain ⟨hp1, hp2, hp3⟩ := hqq
        simp only [oc_some] at h
        injection h with h; subst h
        refine ⟨_, { w with heap := w.heap.setIfInBounds g.blk (.map (es'.eraseIdxIfInBounds p.1) clock) }, rfl, ?_, ?_, setObj_fr _ hown⟩
        · simp [Builtin.delete_, h0, h1, h2, hu, run_getObj_map hw, checkKey_ok hE hkt hk, hf, run_setObj hw, hp1]
        · have hto : (es'.eraseIdxIfInBounds p.1).toList = es'.toList.eraseIdx p.1 := by
            rw [Array.eraseIdxIfInBounds]; split
            · simp
            · rename_i hh; rw [List.eraseIdx_of_length_le]; simpa using hh
          refine hR.turnMap ho hg ⟨by rw [hto, dropNth_eq, List.length_eraseIdx, List.length_eraseIdx, hl], fun i a c d hi => ?_⟩
          rw [dropNth_eq, List.getElem?_eraseIdx] at hi
          rw [hto, List.getElem?_eraseIdx]
          split at hi
          · rename_i h3; rw [if_pos h3]; exact her.2 _ _ _ _ hi
          · rename_i h3; rw [if_neg h3]; exact her.2 _ _ _ _ hi
end
end
end Go.Ev
