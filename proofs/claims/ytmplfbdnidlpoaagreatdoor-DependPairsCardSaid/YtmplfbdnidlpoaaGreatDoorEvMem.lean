/- What becomes of memory: a write, a new block, an object turned. -/
import Derived.Test.YtmplfbdnidlpoaaGreatDoorEvOps6
namespace Go.Ev
noncomputable section

def upd (γ : G) (nx : Nat) (g : Blk) : G := fun b => if b = nx then some g else γ b
theorem upd_same (γ : G) (nx : Nat) (g : Blk) : upd γ nx g nx = some g := by simp [upd]
theorem upd_other (γ : G) {nx b : Nat} (g : Blk) (h : b ≠ nx) : upd γ nx g b = γ b := by simp [upd, h]
theorem upd_ext {γ : G} {nx : Nat} (hf : Fresh γ nx) (g : Blk) : Ext γ (upd γ nx g) := by
  intro b g' hb
  have : b ≠ nx := by intro h; subst h; rw [hf b (Nat.le_refl _)] at hb; simp at hb
  rw [upd_other γ g this]; exact hb
theorem upd_fresh {γ : G} {nx : Nat} (hf : Fresh γ nx) (g : Blk) : Fresh (upd γ nx g) (nx + 1) := by
  intro b hb
  rw [upd_other γ g (by omega)]
  exact hf b (by omega)

section
variable {ρ : Nat → Value} {γ : G} {own : Nat → Prop} {hp : Heap} {w w' : World} {nx : Nat}

theorem heap_alloc_new (w : World) (o : Obj) : (w.alloc o).heap[w.heap.size]? = some o := by
  show (w.heap.push o)[w.heap.size]? = some o
  simp

theorem HR.weaken (h : HR ρ γ own hp w) {hp' : Heap} (hs : ∀ b o, hp'.get b = some o → hp.get b = some o) : HR ρ γ own hp' w :=
  ⟨fun b o hb => h.obj b o (hs b o hb), fun b b' o o' g g' h1 h2 => h.inj b b' o o' g g' (hs _ _ h1) (hs _ _ h2)⟩

/-- the world has turned where nothing of these objects lies -/
theorem HR.stay (h : HR ρ γ own hp w) (hw : ∀ b o g, hp.get b = some o → γ b = some g → w'.heap[g.blk]? = w.heap[g.blk]?) : HR ρ γ own hp w' :=
  ⟨fun b o hb => let ⟨g, o', h1, h2, h3, h4⟩ := h.obj b o hb; ⟨g, o', h1, h2, (hw b o g hb h1).trans h3, h4⟩, h.inj⟩

theorem HR.ext (h : HR ρ γ own hp w) {γ' : G} (e : Ext γ γ') : HR ρ γ' own hp w := by
  refine ⟨fun b o hb => ?_, fun b b' o o' g g' h1 h2 h3 h4 => ?_⟩
  · obtain ⟨g, o', h1, h2, h3, h4⟩ := h.obj b o hb
    exact ⟨g, o', e _ _ h1, h2, h3, h4.ext e⟩
  · obtain ⟨g1, _, e1, _⟩ := h.obj b o h1
    obtain ⟨g2, _, e2, _⟩ := h.obj b' o' h2
    have := e _ _ e1; rw [h3] at this; injection this with this; subst this
    have := e _ _ e2; rw [h4] at this; injection this with this; subst this
    exact h.inj b b' o o' _ _ h1 h2 e1 e2

theorem HR.drew (h : HR ρ γ own hp w) : HR ρ γ own hp w.drew := h.stay (fun _ _ _ _ _ => rfl)

/-- one object is turned, in its own block -/
theorem HR.turn (h : HR ρ γ own hp w) {b : Nat} {o : AObj} {o' : Obj} {g : Blk} (hb : ∃ o0, hp.get b = some o0) (hg : γ b = some g)
    (hsame : w'.heap[g.blk]? = some o') (hother : ∀ k, k ≠ g.blk → w'.heap[k]? = w.heap[k]?) (ho : OR ρ γ g o o') : HR ρ γ own (hp.put b o) w' := by
  obtain ⟨o0, hb0⟩ := hb
  obtain ⟨g0, _, hg0, hown, _⟩ := h.obj b o0 hb0
  rw [hg] at hg0; injection hg0 with hg0; subst hg0
  refine ⟨fun c x hc => ?_, fun c c' x x' g1 g2 h1 h2 h3 h4 he => ?_⟩
  · rw [PT.get_put] at hc
    split at hc
    · rename_i hbc; subst hbc
      injection hc with hc; subst hc
      exact ⟨g, o', hg, hown, hsame, ho⟩
    · rename_i hbc
      obtain ⟨g1, o1, k1, k2, k3, k4⟩ := h.obj c x hc
      have : g1.blk ≠ g.blk := fun hh => hbc (h.inj b c o0 x g g1 hb0 hc hg k1 hh.symm)
      exact ⟨g1, o1, k1, k2, (hother _ this).trans k3, k4⟩
  · have e1 : ∃ y, hp.get c = some y := by
      rw [PT.get_put] at h1; split at h1
      · rename_i hh; subst hh; exact ⟨_, hb0⟩
      · exact ⟨_, h1⟩
    have e2 : ∃ y, hp.get c' = some y := by
      rw [PT.get_put] at h2; split at h2
      · rename_i hh; subst hh; exact ⟨_, hb0⟩
      · exact ⟨_, h2⟩
    obtain ⟨y1, e1⟩ := e1
    obtain ⟨y2, e2⟩ := e2
    exact h.inj c c' y1 y2 g1 g2 e1 e2 h3 h4 he

/-- a new block -/
theorem HR.alloc (h : HR ρ γ own hp w) (hf : Fresh γ nx) (hup : Up own w) {o : AObj} {o' : Obj} {N : Nat} (ho : OR ρ (upd γ nx ⟨w.heap.size, 0, N⟩) ⟨w.heap.size, 0, N⟩ o o') :
    HR ρ (upd γ nx ⟨w.heap.size, 0, N⟩) own (hp.put nx o) (w.alloc o') := by
  have e := upd_ext hf ⟨w.heap.size, 0, N⟩
  have hnew : hp.get nx = none := by
    cases hn : hp.get nx with
    | none => rfl
    | some x =>
      obtain ⟨g, _, hg, _⟩ := h.obj nx x hn
      rw [hf nx (Nat.le_refl _)] at hg; simp at hg
  refine ⟨fun c x hc => ?_, fun c c' x x' g1 g2 h1 h2 h3 h4 he => ?_⟩
  · rw [PT.get_put] at hc
    split at hc
    · rename_i hbc; subst hbc
      injection hc with hc; subst hc
      exact ⟨_, o', upd_same _ _ _, hup _ (Nat.le_refl _), heap_alloc_new w o', ho⟩
    · obtain ⟨g1, o1, k1, k2, k3, k4⟩ := h.obj c x hc
      exact ⟨g1, o1, e _ _ k1, k2, by rw [RowKit.Below.heap_alloc _ _ _ (h.lt hc k1)]; exact k3, k4.ext e⟩
  · rw [PT.get_put] at h1 h2
    split at h1
    · rename_i hbc; subst hbc
      split at h2
      · rename_i hbc; exact hbc
      · exfalso
        obtain ⟨g3, _, k1, _⟩ := h.obj c' x' h2
        rw [upd_same] at h3; injection h3 with h3; subst h3
        have := e _ _ k1; rw [h4] at this; injection this with this; subst this
        have := h.lt h2 k1
        simp only at he; omega
    · obtain ⟨g3, _, k1, _⟩ := h.obj c x h1
      have := e _ _ k1; rw [h3] at this; injection this with this; subst this
      split at h2
      · exfalso
        rename_i hbc; subst hbc
        rw [upd_same] at h4; injection h4 with h4; subst h4
        have := h.lt h1 k1
        simp only at he; omega
      · obtain ⟨g4, _, k2, _⟩ := h.obj c' x' h2
        have := e _ _ k2; rw [h4] at this; injection this with this; subst this
        exact h.inj c c' x x' _ _ h1 h2 k1 k2 he

/-- an object moves to a new number, in its own block, turned or not -/
theorem HR.move (h : HR ρ γ own hp w) (hf : Fresh γ nx) {b : Nat} {o : AObj} {o' : Obj} {g g' : Blk} (hb : ∃ o0, hp.get b = some o0) (hg : γ b = some g) (hbn : g'.blk = g.blk)
    (hsame : w'.heap[g.blk]? = some o') (hother : ∀ k, k ≠ g.blk → w'.heap[k]? = w.heap[k]?) (ho : OR ρ (upd γ nx g') g' o o') :
    HR ρ (upd γ nx g') own ((hp.del b).put nx o) w' := by
  obtain ⟨o0, hb0⟩ := hb
  obtain ⟨g0, _, hg0, hown, _⟩ := h.obj b o0 hb0
  rw [hg] at hg0; injection hg0 with hg0; subst hg0
  have e := upd_ext hf g'
  have hget : ∀ c x, ((hp.del b).put nx o).get c = some x → (c = nx ∧ x = o) ∨ (c ≠ nx ∧ c ≠ b ∧ hp.get c = some x) := by
    intro c x hc
    rw [PT.get_put] at hc
    split at hc
    · rename_i hh; injection hc with hc; exact .inl ⟨hh.symm, hc.symm⟩
    · rename_i hh
      rw [PT.get_del] at hc
      split at hc
      · simp at hc
      · rename_i h2; exact .inr ⟨fun h3 => hh h3.symm, fun h3 => h2 h3.symm, hc⟩
  refine ⟨fun c x hc => ?_, fun c c' x x' g1 g2 h1 h2 h3 h4 he => ?_⟩
  · rcases hget c x hc with ⟨rfl, rfl⟩ | ⟨_, hcb, hc⟩
    · exact ⟨g', o', upd_same _ _ _, by rw [hbn]; exact hown, by rw [hbn]; exact hsame, ho⟩
    · obtain ⟨g1, o1, k1, k2, k3, k4⟩ := h.obj c x hc
      have : g1.blk ≠ g.blk := fun hh => hcb (h.inj c b x o0 g1 g hc hb0 k1 hg hh)
      exact ⟨g1, o1, e _ _ k1, k2, (hother _ this).trans k3, k4.ext e⟩
  · rcases hget c x h1 with ⟨rfl, rfl⟩ | ⟨_, hcb, hc⟩
    · rcases hget c' x' h2 with ⟨rfl, rfl⟩ | ⟨_, hcb', hc'⟩
      · rfl
      · exfalso
        rw [upd_same] at h3; injection h3 with h3; subst h3
        obtain ⟨g4, _, k2, _⟩ := h.obj c' x' hc'
        have := e _ _ k2; rw [h4] at this; injection this with this; subst this
        exact hcb' (h.inj c' b x' o0 _ g hc' hb0 k2 hg (by rw [← he, hbn]))
    · obtain ⟨g3, _, k1, _⟩ := h.obj c x hc
      have := e _ _ k1; rw [h3] at this; injection this with this; subst this
      rcases hget c' x' h2 with ⟨rfl, rfl⟩ | ⟨_, hcb', hc'⟩
      · exfalso
        rw [upd_same] at h4; injection h4 with h4; subst h4
        exact hcb (h.inj c b x o0 _ g hc hb0 k1 hg (by rw [he, hbn]))
      · obtain ⟨g4, _, k2, _⟩ := h.obj c' x' hc'
        have := e _ _ k2; rw [h4] at this; injection this with this; subst this
        exact h.inj c c' x x' _ _ hc hc' k1 k2 he

/-- a row that is written -/
theorem OR.write {g : Blk} {t : PT AV} {z : List AV} {n off : Nat} {as : List AV} {vs : List Value} {c c' : Array Value} {e : TypeId} {fz : Nat × Nat}
    (h : OR ρ γ g (.cells t z n) (.cells c e fz)) (hv : VRs ρ γ as vs) (_hn : off + as.length ≤ n) (hsz : c'.size = c.size)
    (hp : ∀ p, c'[p]? = if g.δ + off ≤ p ∧ p < g.δ + off + vs.length then vs[p - (g.δ + off)]? else c[p]?) :
    OR ρ γ g (.cells (putCells as t off) z n) (.cells c' e fz) := by
  simp only [OR] at h ⊢
  obtain ⟨h1, h2, h3, h4⟩ := h
  have hl := hv.length
  refine ⟨by rw [hsz]; exact h1, h2, h3, fun i v hi => ?_⟩
  rw [cellOf_eq] at hi
  split at hi
  · rename_i hin
    rw [get_putCells] at hi
    rw [hp]
    by_cases hw : off ≤ i ∧ i < off + as.length
    · rw [if_pos hw] at hi
      rw [if_pos (by omega)]
      have hlt : i - off < as.length := by omega
      rw [List.getElem?_eq_getElem hlt] at hi
      simp at hi
      obtain ⟨u, hu, hr⟩ := hv.get (i - off) v (by rw [List.getElem?_eq_getElem hlt, hi])
      exact ⟨u, by rw [show g.δ + i - (g.δ + off) = i - off by omega]; exact hu, hr⟩
    · rw [if_neg hw] at hi
      rw [if_neg (by omega)]
      exact h4 i v (by rw [cellOf_eq, if_pos hin]; exact hi)
  · simp at hi

theorem Wrote.fr {own : Nat → Prop} {blk o : Nat} {vs : List Value} (h : Wrote w w' blk o vs) (ho : own blk) : Fr own w w' :=
  ⟨h.os, h.tape, h.output, by rw [h.size]; exact Nat.le_refl _, fun k _ hk => h.other k (fun hh => hk (hh ▸ ho))⟩

/-- a write into a row -/
theorem writeAt_ok {P : Program} (hR : HR ρ γ own hp w) {b off : Nat} {as : List AV} {vs : List Value} {hp' : Heap} (h : writeAt hp b off as = some hp') (hv : VRs ρ γ as vs) {g : Blk} (hg : γ b = some g) :
    ∃ w', (storeCells ⟨g.blk, g.δ + off, none⟩ vs).run P w = .ok () w' ∧ HR ρ γ own hp' w' ∧ Fr own w w' := by
  simp only [writeAt, ob_some, og_some, AObj.cells?_some] at h
  obtain ⟨o, ho, ⟨t, z, n⟩, rfl, hle, hone, he⟩ := h
  injection he with he; subst he
  have hle := ble_iff.1 hle
  simp only [Nat.add_eq] at hle
  obtain ⟨g', o', hg', hown, hw, hor⟩ := hR.obj b _ ho
  rw [hg] at hg'; injection hg' with hg'; subst hg'
  cases o' <;> simp only [OR] at hor
  rename_i c e fz
  have hl := hv.length
  obtain ⟨w', hrun, hwr⟩ := run_storeCells (P := P) (blk := g.blk) (o := g.δ + off) vs 0 w c e fz hw (by omega) (fun k _ => hor.2.2.1 k) (hv.ones hone)
  obtain ⟨c', hc', hsz, hcell⟩ := hwr.same _ _ _ hw
  refine ⟨w', hrun, ?_, hwr.fr hown⟩
  exact hR.turn ⟨_, ho⟩ hg hc' hwr.other (OR.write (by simp only [OR]; exact hor) hv hle hsz (by simpa using hcell))
end
end
end Go.Ev
