/- Struct and array values that are built; slices' literals. -/
import Derived.Test.YtmplfbdnidlpoaaGreatDoorEvOps2
namespace Go.Ev
noncomputable section

/-- a row of slots against an array -/
def RowR (ρ : Nat → Value) (γ : G) (row : PT AV) (n : Nat) (c : Array Value) : Prop :=
  c.size = n ∧ ∀ i v, i < n → row.get i = some v → ∃ v', c[i]? = some v' ∧ VR ρ γ v v'

theorem foldl_set (vs : List Value) : ∀ (off k : Nat) (c : Array Value), off + k + vs.length ≤ c.size →
    ((vs.zipIdx k).foldl (fun cs (x, j) => cs.setIfInBounds (off + j) x) c).size = c.size ∧
    ∀ p, ((vs.zipIdx k).foldl (fun cs (x, j) => cs.setIfInBounds (off + j) x) c)[p]? = if off + k ≤ p ∧ p < off + k + vs.length then vs[p - (off + k)]? else c[p]? := by
  induction vs with
  | nil => intro off k c _; simp; intro p h1 h2; omega
  | cons v vs ih =>
    intro off k c h
    simp only [List.length_cons] at h
    simp only [List.zipIdx_cons, List.foldl_cons]
    obtain ⟨h1, h2⟩ := ih off (k + 1) (c.setIfInBounds (off + k) v) (by simp; omega)
    refine ⟨by rw [h1]; simp, fun p => ?_⟩
    rw [h2 p]
    simp only [List.length_cons]
    by_cases hp : p = off + k
    · subst hp
      rw [if_neg (by omega), if_pos (by omega)]
      simp [show off + k < c.size by omega]
    · by_cases h3 : off + (k + 1) ≤ p ∧ p < off + (k + 1) + vs.length
      · rw [if_pos h3, if_pos (by omega), show p - (off + k) = (p - (off + (k + 1))) + 1 by omega]; simp
      · rw [if_neg h3, if_neg (by omega), Array.getElem?_setIfInBounds_ne (by omega)]

section
variable {ρ : Nat → Value} {γ : G}

theorem VR.cells_of_len {a : AV} {v : Value} (h : VR ρ γ a v) (ho : ∀ k, a ≠ .opq k) : VRs ρ γ a.cells v.cells.toList := by
  cases h
  case opq k => exact absurd rfl (ho k)
  all_goals first | exact .cons _ _ _ _ (by constructor <;> assumption) .nil | assumption

theorem fillA_ok (place place' : Nat → Option (Nat × Nat)) (n : Nat) (hpl : ∀ i p, place i = some p → place' i = some p) :
    ∀ (parts : List (Nat × AV)) (row row' : PT AV) (vals : List (Nat × Value)) (c : Array Value), fillA place n parts row = some row' →
      vals.map (·.1) = parts.map (·.1) → VRs ρ γ (parts.map (·.2)) (vals.map (·.2)) → (∀ p ∈ parts, ∀ k, p.2 ≠ .opq k) → RowR ρ γ row n c →
      ∃ c', Instr.fill place' c vals = some c' ∧ RowR ρ γ row' n c' := by
  intro parts
  induction parts with
  | nil =>
    intro row row' vals c h h1 _ _ hr
    simp [fillA] at h; subst h
    cases vals with
    | nil => exact ⟨c, rfl, hr⟩
    | cons _ _ => simp at h1
  | cons p parts ih =>
    obtain ⟨i, a⟩ := p
    intro row row' vals c h h1 h2 ho hr
    cases vals with
    | nil => simp at h1
    | cons q vals =>
      obtain ⟨i', v⟩ := q
      simp only [List.map_cons, List.cons.injEq] at h1
      obtain ⟨rfl, h1⟩ := h1
      simp only [List.map_cons] at h2
      cases h2 with
      | cons _ _ _ _ hv hvs =>
        simp only [fillA, ob_some, og_some] at h
        obtain ⟨⟨off, size⟩, hp, h3, h4, h5⟩ := h
        have h3 := beq_iff.1 h3
        have h4 := ble_iff.1 h4
        simp only [Nat.add_eq] at h4
        have hc := hv.cells_of_len (ho _ (List.mem_cons_self ..))
        have hl := hc.length
        rw [h3] at hl
        have hsz : v.cells.size = size := by simpa using hl.symm
        simp only [Instr.fill, hpl _ _ hp, hsz]
        rw [if_neg (by simp only [ne_eq, not_true_eq_false, decide_false, Bool.false_or, decide_eq_true_eq, hr.1]; omega)]
        have hfold : v.cells.zipIdx.foldl (fun cs (x, j) => cs.setIfInBounds (off + j) x) c = (v.cells.toList.zipIdx 0).foldl (fun cs (x, j) => cs.setIfInBounds (off + j) x) c := by
          rw [← Array.foldl_toList]; simp
        obtain ⟨g1, g2⟩ := foldl_set v.cells.toList off 0 c (by simp [hsz, hr.1]; omega)
        refine ih _ _ vals _ h5 h1 hvs (fun p hp => ho p (List.mem_cons_of_mem _ hp)) ?_
        refine ⟨by rw [hfold, g1]; exact hr.1, fun j u hj hu => ?_⟩
        rw [get_putCells] at hu
        rw [hfold, g2 j]
        simp only [Nat.add_zero]
        by_cases hin : off ≤ j ∧ j < off + a.cells.length
        · rw [if_pos hin] at hu
          rw [if_pos (by simp [hsz]; omega)]
          exact hc.get _ _ hu
        · rw [if_neg hin] at hu
          rw [if_neg (by simp [hsz]; omega)]
          exact hr.2 j u hj hu

theorem cells_row {row : PT AV} {n : Nat} {c : Array Value} (h : RowR ρ γ row n c) {cs : List AV} (hc : cellsFrom row [] n n 0 = some cs) : VRs ρ γ cs c.toList := by
  obtain ⟨hl, hcell⟩ := cellsFrom_spec _ _ _ _ _ _ hc
  obtain ⟨vs, hvs, hf⟩ := VRs.build (ρ := ρ) (γ := γ) (f := fun j => c[j]?) cs 0 (fun j a ha => by
    have hj : j < n := by rw [← hl]; exact (List.getElem?_eq_some_iff.1 ha).1
    have := hcell j a ha
    rw [cellOf_eq, if_pos (by omega)] at this
    simp only [Nat.zero_add] at this ⊢
    cases hg : row.get j with
    | none => simp [hg] at this
    | some u => simp [hg] at this; subst this; exact h.2 j u hj hg)
  have : vs = c.toList := by
    apply List.ext_getElem?
    intro j
    by_cases hj : j < vs.length
    · have := hf j (vs[j]) (by simp)
      rw [List.getElem?_eq_getElem hj]
      simp only [Nat.zero_add] at this
      simp [this]
    · have h1 := hvs.length
      rw [List.getElem?_eq_none (by omega), List.getElem?_eq_none (by simp [h.1]; omega)]
  rwa [← this]

theorem row_of {as : List AV} {vs : List Value} (h : VRs ρ γ as vs) : RowR ρ γ (rowOf as) vs.length ⟨vs⟩ := by
  refine ⟨by simp, fun i v hi hv => ?_⟩
  rw [get_rowOf] at hv
  obtain ⟨u, hu, hr⟩ := h.get i v hv
  exact ⟨u, by simpa using hu, hr⟩

theorem run_mapM_list {P : Program} {α β : Type} (f : α → Sem β) (g : α → β) (w : World) : ∀ (l : List α), (∀ x ∈ l, (f x).run P w = .ok (g x) w) → (l.mapM f).run P w = .ok (l.map g) w
  | [], _ => by simp
  | x :: l, h => by
    have ih := run_mapM_list f g w l (fun y hy => h y (List.mem_cons_of_mem _ hy))
    simp [List.mapM_cons, h x (List.mem_cons_self ..), ih]
theorem run_mapM {P : Program} {α β : Type} (f : α → Sem β) (g : α → β) (w : World) (l : Array α) (h : ∀ x ∈ l, (f x).run P w = .ok (g x) w) :
    (l.mapM f).run P w = .ok (l.map g) w := by
  have := run_mapM_list (P := P) f g w l.toList (fun x hx => h x (by simpa using hx))
  rw [Array.mapM_eq_mapM_toList, Sem.run_map, this, Result.andThen_ok]
  congr 1
  apply Array.ext'
  simp

variable {P : Program} {E : Env} {w : World}

theorem TyOk.run_zero {t : Nat} {ti : TyI} (h : TyOk P t ti) {z : List AV} (hz : ti.zero = some z) : ∃ v, (∀ w, (zeroValue t).run P w = .ok v w) ∧ VRs ρ γ z v.cells.toList ∧
    (ti.agg = true → ∃ cs, v = .agg cs) ∧ (ti.agg = false → v.cells = #[v]) := by
  obtain ⟨i, _, _, hr, hzz⟩ := h.run_typeInfo
  obtain ⟨v, h1, h2, h3⟩ := hzz z hz
  exact ⟨v, fun w => by simp [zeroValue, hr, h1], ofValues_ok _ _ _ _ h2, h3⟩

theorem known_ok : ∀ {parts : List (Nat × AV)}, known parts = true → ∀ p ∈ parts, ∀ k, p.2 ≠ .opq k
  | [], _, p, hp, _ => by simp at hp
  | (i, v) :: ps, h, p, hp, k => by
    cases v <;> simp only [known] at h
    case opq => simp at h
    all_goals
      rcases List.mem_cons.1 hp with rfl | hp
      · simp
      · exact known_ok h p hp k

theorem build_ok (hE : EnvOk P E) {t : Nat} {parts : List (Nat × AV)} {v : AV} (h : buildA E t parts = some v) {vals : List (Nat × Value)}
    (h1 : vals.map (·.1) = parts.map (·.1)) (h2 : VRs ρ γ (parts.map (·.2)) (vals.map (·.2))) :
    ∃ v', (Instr.build t vals.toArray).run P w = .ok v' w ∧ VR ρ γ v v' := by
  simp only [buildA, ob_some, og_some] at h
  obtain ⟨hkn, ti, hti, z, hz, hzl, h⟩ := h
  have ho := known_ok hkn
  have ht := hE.tys t ti hti
  obtain ⟨zv, hzv, hzr, _⟩ := ht.run_zero (ρ := ρ) (γ := γ) hz
  have hzl := beq_iff.1 hzl
  have hzs : zv.cells.size = ti.size := by have := hzr.length; rw [hzl] at this; simpa using this.symm
  have hrow : RowR ρ γ (rowOf z) ti.size zv.cells := by
    have := row_of hzr
    rw [← hzr.length, hzl] at this
    exact this
  obtain ⟨td, hd1, hd2⟩ := ht.run_underlying
  cases hdd : ti.d <;> simp only [hdd] at h <;> try (simp at h; done)
  case struct fs =>
    simp only [ob_some] at h
    obtain ⟨row, hfill, cs, hcs, he⟩ := h
    injection he with he; subst he
    rw [hdd] at hd1
    cases td <;> simp only [DOk] at hd1
    rename_i cfs
    have hpl : ∀ x ∈ cfs, ((do pure (x.offset, ← sizeOf x.type) : Sem (Nat × Nat))).run P w = .ok (x.offset, ((E.tys.get x.type).map (·.size)).getD 0) w := by
      intro x hx
      obtain ⟨fi, hfi⟩ := hE.fields t ti fs hti hdd (x.offset, x.type, decide (x.name ≠ "_")) (by rw [hd1]; exact List.mem_map.2 ⟨x, by simpa using hx, rfl⟩)
      simp [(hE.tys _ _ hfi).run_sizeOf, hfi]
    have hm := run_mapM (P := P) (fun (x : Field) => (do pure (x.offset, ← sizeOf x.type) : Sem (Nat × Nat))) _ w cfs hpl
    obtain ⟨c', hc', hr'⟩ := fillA_ok (structPlace E fs) (fun i => (cfs.map fun x => (x.offset, ((E.tys.get x.type).map (·.size)).getD 0))[i]?) ti.size (by
      intro i p hp
      simp only [structPlace, ob_some, nth_eq, sizeA] at hp
      obtain ⟨fd, hfd, s, ⟨fi, hfi, hs⟩, he⟩ := hp
      injection he with he; subst he
      injection hs with hs; subst hs
      rw [hd1] at hfd
      simp only [List.getElem?_map, Option.map_eq_some_iff] at hfd
      obtain ⟨x, hx, rfl⟩ := hfd
      simp at hx
      simp [hx, hfi]) parts (rowOf z) row vals zv.cells hfill h1 h2 ho hrow
    refine ⟨.agg c', ?_, .agg _ _ (cells_row hr' hcs)⟩
    simp only [Instr.build, Sem.run_bind, hzv, hd2, Result.andThen_ok, hm, hc', Sem.run_pure]
  case array len e =>
    simp only [ob_some] at h
    obtain ⟨sz, hsz, row, hfill, cs, hcs, he⟩ := h
    injection he with he; subst he
    rw [hdd] at hd1
    cases td <;> simp only [DOk] at hd1
    obtain ⟨rfl, rfl⟩ := hd1
    simp only [sizeA, ob_some] at hsz
    obtain ⟨ei, hei, hs⟩ := hsz
    injection hs with hs; subst hs
    obtain ⟨c', hc', hr'⟩ := fillA_ok _ (fun i => some (i * ei.size, ei.size)) ti.size (by intro i p hp; simpa using hp) parts (rowOf z) row vals zv.cells hfill h1 h2 ho hrow
    refine ⟨.agg c', ?_, .agg _ _ (cells_row hr' hcs)⟩
    simp only [Instr.build, Sem.run_bind, hzv, hd2, Result.andThen_ok, (hE.tys _ _ hei).run_sizeOf, hc', Sem.run_pure]
end
end
end Go.Ev
