/- Regions whose order is open: what holds at each point of a run, and how it is kept. -/
import Derived.Test.YtmplfbdnidlpoaaGreatDoorEvPlan
namespace Go.Ev
noncomputable section
variable {K : KI}

def D (L : Array Bool) (i : Nat) : Prop := L.getD i false = true

theorem D_lt {L : Array Bool} {i : Nat} (h : D L i) : i < L.size := by
  rcases Nat.lt_or_ge i L.size with hh | hh
  · exact hh
  · simp [D, Array.getElem?_eq_none hh] at h

theorem D_set {L : Array Bool} {i j : Nat} (hi : i < L.size) : D (L.setIfInBounds i true) j ↔ D L j ∨ j = i := by
  by_cases hij : i = j
  · subst hij
    simp [D, hi]
  · have : (L.setIfInBounds i true).getD j false = L.getD j false := getD_set_ne false hij
    simp only [D, this]
    constructor
    · exact .inl
    · rintro (h | h)
      · exact h
      · exact absurd h.symm hij

def What.val : What → AV
  | .skip => .tup []
  | .quiet v => v
  | .alloc _ v _ => v

/-- the block that an operation has made in the run, and that the plan's memory does not hold yet -/
def FlOne (γ : G) (L : Array Bool) (r : Rec) (k : Nat) : Prop := ∃ b v obj g, r.x = .alloc b v obj ∧ D L r.p.i ∧ γ b = some g ∧ g.blk = k
def Fl (γ : G) (L : Array Bool) (pd : List Rec) (k : Nat) : Prop := ∃ r ∈ pd, FlOne γ L r k

def RecOk (E : Env) (all : List Oper) (hp : Heap) (r : Rec) : Prop :=
  match r.x with
  | .skip => wantedA all r.tr r.p.o = some false
  | .quiet v => wantedA all r.tr r.p.o = some true ∧ opQ E r.p.o.op r.tr hp = some v
  | .alloc b v obj => wantedA all r.tr r.p.o = some true ∧ opB E r.p.o.op r.tr b = some (v, obj)

structure DInv (E : Env) (ops : Array Oper) (ms : List Nat) (ps : List PI) (B : Base) (γ : G) (pl : List PI) (s : St) (pd : List Rec) (dn : Nat) (L : Array Bool) (a : Act) (w : World) : Prop where
  plan : ∀ p ∈ pl, p ∈ ps
  chk : planChk ops.toList pl dn = true
  size : L.size = ops.size
  lt : ∀ i, dn.testBit i = true → i < ops.size
  within : ∀ p ∈ ps, dn.testBit p.i = true → ∀ j, p.m.testBit j = true → dn.testBit j = true
  sub : ∀ i, D L i → dn.testBit i = true
  clos : ∀ p ∈ ps, D L p.i → ∀ j, p.m.testBit j = true → D L j
  pend : ∀ p ∈ ps, dn.testBit p.i = true → ¬ D L p.i → ∃ r ∈ pd, r.p.i = p.i
  mem : ∀ r ∈ pd, r.p ∈ ps ∧ dn.testBit r.p.i = true
  uniq : ∀ r ∈ pd, ∀ r' ∈ pd, r.p.i = r'.p.i → r = r'
  cur : ∀ r ∈ pd, ∀ d, r.p.o.dst = some d → s.tm.get d = some r.x.val ∧ d < s.nt
  ev : ∀ r ∈ pd, RecOk E ops.toList s.hp r
  num : ∀ r ∈ pd, ∀ b v obj, r.x = .alloc b v obj → B.nx ≤ b ∧ b < s.nx ∧ (¬ D L r.p.i → γ b = none)
  numu : ∀ r ∈ pd, ∀ r' ∈ pd, ∀ b v obj v' obj', r.x = .alloc b v obj → r'.x = .alloc b v' obj' → r.p.i = r'.p.i
  fl : ∀ r ∈ pd, ∀ b v obj, r.x = .alloc b v obj → D L r.p.i → ∃ g obj', γ b = some g ∧ B.own g.blk ∧ w.heap[g.blk]? = some obj' ∧ OR B.ρ γ g obj obj'
  flu : ∀ r ∈ pd, ∀ r' ∈ pd, ∀ k, FlOne γ L r k → FlOne γ L r' k → r.p.i = r'.p.i
  tr : ∀ r ∈ pd, ¬ D L r.p.i → ∀ t v, r.tr.get t = some v → t ∈ readsOf ops.toList r.p.o ∧
    ((∀ q ∈ ps, q.o.dst = some t → r.p.m.testBit q.i = true → D L q.i) → ∃ v', a.tmps[t]? = some v' ∧ VR B.ρ γ v v')
  cv : ∀ r ∈ pd, ∀ r₀ ∈ pd, r.p.m.testBit r₀.p.i = true → ∀ t v, r₀.p.o.dst = some t → r.tr.get t = some v → v = r₀.x.val
  tm : ∀ t v, s.tm.get t = some v → (∀ q ∈ ps, q.o.dst = some t → dn.testBit q.i = true → D L q.i) → ∃ v', a.tmps[t]? = some v' ∧ VR B.ρ γ v v'
  nt : a.tmps.size = s.nt
  df : DfRs B.ρ γ s.df a.defers
  hp : HR B.ρ γ (fun k => B.own k ∧ ¬ Fl γ L pd k) s.hp w
  fresh : Fresh γ s.nx
  later : Later B γ s.nx w
  nodup : pd.Pairwise fun r r' => r.p.i ≠ r'.p.i

theorem HR.own {ρ : Nat → Value} {γ : G} {own own' : Nat → Prop} {hp : Heap} {w : World} (h : HR ρ γ own hp w) (k : ∀ b o g, hp.get b = some o → γ b = some g → own g.blk → own' g.blk) : HR ρ γ own' hp w :=
  ⟨fun b o hb => let ⟨g, o', h1, h2, h3, h4⟩ := h.obj b o hb; ⟨g, o', h1, k b o g hb h1 h2, h3, h4⟩, h.inj⟩

theorem put_same {a : Act} {d : Nat} {v : Value} (h : d < a.tmps.size) : (a.put (some d) v).tmps[d]? = some v := by simp [Act.put, h]

section
variable {P : Program} {E : Env} {ops : Array Oper} {ms : List Nat} {ps : List PI} {B : Base} {γ : G} {pl : List PI} {s : St} {pd : List Rec} {dn : Nat} {L : Array Bool} {a : Act} {w : World}

theorem Stat.same (hSt : Stat E ops ms ps) {p q : PI} (hp : p ∈ ps) (hq : q ∈ ps) (h : p.i = q.i) : p.o = q.o ∧ p.m = q.m := by
  obtain ⟨h1, _, h2⟩ := hSt.ent p hp
  obtain ⟨k1, _, k2⟩ := hSt.ent q hq
  rw [h, k1] at h1
  exact ⟨by injection h1 with h1; exact h1.symm, by rw [h2, k2, h]⟩

/-- an operation that may go has all behind it that must stand ahead -/
theorem DInv.ahead (hSt : Stat E ops ms ps) (h : DInv E ops ms ps B γ pl s pd dn L a w) {p : PI} (hp : p ∈ ps) (hlt : ∀ j, p.m.testBit j = true → j < ops.size) (hr : ∀ j ∈ edgesOf p.o, D L j) :
    ∀ j, p.m.testBit j = true → D L j := by
  intro j hj
  obtain ⟨e, he, h1 | h1⟩ := hSt.mask p hp j (hlt j hj) hj
  · subst h1; exact hr _ he
  · have hD := hr e he
    have hel : e < ops.size := by rw [← h.size]; exact D_lt hD
    obtain ⟨q, hq, hqe⟩ := hSt.all e _ (Array.getElem?_eq_getElem hel)
    have hqm := (hSt.ent q hq).2.2
    rw [hqe] at hqm
    exact h.clos q hq (by rw [hqe]; exact hD) j (by rw [hqm]; exact h1)

/-- an operation of the plan is done in the run -/
theorem DInv.done (hSt : Stat E ops ms ps) (h : DInv E ops ms ps B γ pl s pd dn L a w) {r : Rec} (hr : r ∈ pd) (hnd : ¬ D L r.p.i) (hmk : ∀ j, r.p.m.testBit j = true → D L j)
    {γ' : G} {w' : World} {v' : Value} (hext : Ext γ γ') (hold : ∀ b, (∀ v obj, r.x ≠ .alloc b v obj) → γ' b = γ b) (hsame : ∀ k, k < w.heap.size → w'.heap[k]? = w.heap[k]?)
    (hfresh : Fresh γ' s.nx) (hlat : Later B γ' s.nx w') (hval : VR B.ρ γ' r.x.val v')
    (hfl : ∀ b v obj, r.x = .alloc b v obj → ∃ g obj', γ' b = some g ∧ B.own g.blk ∧ w.heap.size ≤ g.blk ∧ w'.heap[g.blk]? = some obj' ∧ OR B.ρ γ' g obj obj') :
    DInv E ops ms ps B γ' pl s pd dn (L.setIfInBounds r.p.i true) (a.put r.p.o.dst v') w' := by
  obtain ⟨hrp, hrd⟩ := h.mem r hr
  have hi : r.p.i < L.size := by rw [h.size]; exact h.lt _ hrd
  have hD : ∀ {j}, D (L.setIfInBounds r.p.i true) j ↔ D L j ∨ j = r.p.i := D_set hi
  have hltk : ∀ {k : Nat} {o : Obj}, w.heap[k]? = some o → k < w.heap.size := fun {k o} hk => by
    rcases Nat.lt_or_ge k w.heap.size with hh | hh
    · exact hh
    · simp [Array.getElem?_eq_none hh] at hk
  have hone : ∀ r₁ ∈ pd, ∀ k, FlOne γ' (L.setIfInBounds r.p.i true) r₁ k → (r₁.p.i = r.p.i ∧ w.heap.size ≤ k) ∨ (FlOne γ L r₁ k ∧ k < w.heap.size) := by
    rintro r₁ hr₁ k ⟨b, v, obj, g, hx, hd, hg, rfl⟩
    by_cases he : r₁.p.i = r.p.i
    · left
      have := h.uniq r₁ hr₁ r hr he
      subst this
      obtain ⟨g', obj', k1, _, k2, _⟩ := hfl b v obj hx
      rw [hg] at k1; injection k1 with k1; subst k1
      exact ⟨rfl, k2⟩
    · right
      have hd := (hD.1 hd).resolve_right he
      obtain ⟨g', obj', k1, _, k2, _⟩ := h.fl r₁ hr₁ b v obj hx hd
      have := hext _ _ k1
      rw [hg] at this; injection this with this; subst this
      exact ⟨⟨b, v, obj, g, hx, hd, k1, rfl⟩, hltk k2⟩
  have hput : ∀ t, r.p.o.dst = some t → (a.put r.p.o.dst v').tmps[t]? = some v' := fun t ht => by
    rw [ht]; exact put_same (by rw [h.nt]; exact (h.cur r hr t ht).2)
  refine ⟨h.plan, h.chk, by simp [h.size], h.lt, h.within, ?_, ?_, ?_, h.mem, h.uniq, h.cur, h.ev, ?_, h.numu, ?_, ?_, ?_, h.cv, ?_, ?_, ?_, ?_, hfresh, hlat, h.nodup⟩
  · intro i hi'
    rcases hD.1 hi' with h1 | h1
    · exact h.sub i h1
    · rw [h1]; exact hrd
  · intro p hp hd j hj
    rcases hD.1 hd with h1 | h1
    · exact hD.2 (.inl (h.clos p hp h1 j hj))
    · refine hD.2 (.inl (hmk j ?_))
      rw [← (hSt.same hp hrp h1).2]; exact hj
  · intro p hp hd hn
    exact h.pend p hp hd (fun hh => hn (hD.2 (.inl hh)))
  · intro r₁ hr₁ b v obj hx
    obtain ⟨k1, k2, k3⟩ := h.num r₁ hr₁ b v obj hx
    refine ⟨k1, k2, fun hn => ?_⟩
    rw [hold]
    · exact k3 (fun hh => hn (hD.2 (.inl hh)))
    · intro v₂ obj₂ hx₂
      exact hn (hD.2 (.inr (h.numu r₁ hr₁ r hr b v obj v₂ obj₂ hx hx₂)))
  · intro r₁ hr₁ b v obj hx hd
    by_cases he : r₁.p.i = r.p.i
    · have := h.uniq r₁ hr₁ r hr he
      subst this
      obtain ⟨g, obj', k1, k2, _, k3, k4⟩ := hfl b v obj hx
      exact ⟨g, obj', k1, k2, k3, k4⟩
    · have hd := (hD.1 hd).resolve_right he
      obtain ⟨g, obj', k1, k2, k3, k4⟩ := h.fl r₁ hr₁ b v obj hx hd
      exact ⟨g, obj', hext _ _ k1, k2, by rw [hsame _ (hltk k3)]; exact k3, k4.ext hext⟩
  · intro r₁ hr₁ r₂ hr₂ k h1 h2
    rcases hone r₁ hr₁ k h1 with ⟨e1, l1⟩ | ⟨f1, l1⟩
    · rcases hone r₂ hr₂ k h2 with ⟨e2, l2⟩ | ⟨f2, l2⟩
      · rw [e1, e2]
      · omega
    · rcases hone r₂ hr₂ k h2 with ⟨e2, l2⟩ | ⟨f2, l2⟩
      · omega
      · exact h.flu r₁ hr₁ r₂ hr₂ k f1 f2
  · intro r₁ hr₁ hn t v ht
    have hn1 : ¬ D L r₁.p.i := fun hh => hn (hD.2 (.inl hh))
    have hne : r.p.i ≠ r₁.p.i := fun hh => hn (hD.2 (.inr hh.symm))
    obtain ⟨k1, k2⟩ := h.tr r₁ hr₁ hn1 t v ht
    refine ⟨k1, fun hc => ?_⟩
    by_cases hd : r.p.o.dst = some t
    · obtain ⟨_, hp2⟩ := pairOk_ok (hSt.pair _ hrp _ (h.mem r₁ hr₁).1) hne hd
      rcases hp2 k1 with hm | hm
      · have := h.cv r₁ hr₁ r hr hm t v hd ht
        subst this
        exact ⟨v', hput t hd, hval⟩
      · exact absurd (hmk _ hm) hn1
    · obtain ⟨u, u1, u2⟩ := k2 (fun q hq hqd hqm => by
        rcases hD.1 (hc q hq hqd hqm) with h1 | h1
        · exact h1
        · exact absurd ((hSt.same hq hrp h1).1 ▸ hqd) hd)
      exact ⟨u, by rw [put_other _ _ hd]; exact u1, u2.ext hext⟩
  · intro t v ht hc
    by_cases hd : r.p.o.dst = some t
    · have := (h.cur r hr t hd).1
      rw [ht] at this; injection this with this; subst this
      exact ⟨v', hput t hd, hval⟩
    · obtain ⟨u, u1, u2⟩ := h.tm t v ht (fun q hq hqd hqm => by
        rcases hD.1 (hc q hq hqd hqm) with h1 | h1
        · exact h1
        · exact absurd ((hSt.same hq hrp h1).1 ▸ hqd) hd)
      exact ⟨u, by rw [put_other _ _ hd]; exact u1, u2.ext hext⟩
  · rw [put_size]; exact h.nt
  · rw [put_dfs]; exact h.df.ext hext
  · refine ((h.hp.stay (w' := w') fun b o g hb hg => hsame _ (h.hp.lt hb hg)).ext hext).own ?_
    rintro b o g hb hg ⟨ho, hf⟩
    refine ⟨ho, ?_⟩
    rintro ⟨r₁, hr₁, hf1⟩
    obtain ⟨g', o', k1, _, k2, _⟩ := h.hp.obj b o hb
    have := hext _ _ k1
    rw [hg] at this; injection this with this; subst this
    rcases hone r₁ hr₁ _ hf1 with ⟨_, l1⟩ | ⟨f1, _⟩
    · have := hltk k2; omega
    · exact hf ⟨r₁, hr₁, f1⟩

/-- an operation that the plan has done may go in the run -/
theorem DInv.exec (hE : EnvOk P E) (hSt : Stat E ops ms ps) (h : DInv E ops ms ps B γ pl s pd dn L a w) (hB : Good K B) {r : Rec} (hr : r ∈ pd) (hnd : ¬ D L r.p.i) (hrd : ∀ j ∈ edgesOf r.p.o, D L j)
    {Q : Exit → Act → World → Prop} {K : Act → World → Prop} (hK : ∀ γ' a' w', DInv E ops ms ps B γ' pl s pd dn (L.setIfInBounds r.p.i true) a' w' → K a' w') : wpOp P ops Q r.p.i K a w := by
  obtain ⟨hrp, hrdn⟩ := h.mem r hr
  have hmk := h.ahead hSt hrp (fun j hj => h.lt _ (h.within _ hrp hrdn j hj)) hrd
  have hT : TmR B.ρ γ r.tr s.nt a := ⟨h.nt, fun t v ht => (h.tr r hr hnd t v ht).2 (fun q hq hd hm => hmk q.i hm)⟩
  have ho := (hSt.ent _ hrp).1
  have hev := h.ev r hr
  have hdone : ∀ {v' : Value}, (∀ b v obj, r.x ≠ .alloc b v obj) → VR B.ρ γ r.x.val v' → K (a.put r.p.o.dst v') w := fun hna hv =>
    hK γ _ _ (h.done hSt hr hnd hmk (Ext.refl _) (fun _ _ => rfl) (fun _ _ => rfl) h.fresh h.later hv (fun b v obj hx => absurd hx (hna b v obj)))
  simp only [wpOp, ho]
  cases hx : r.x with
  | skip =>
    simp only [RecOk, hx] at hev
    rw [if_neg (by rw [wanted_ok hT hev]; simp)]
    exact hdone (by simp [hx]) (by rw [hx]; exact tup0)
  | quiet v =>
    simp only [RecOk, hx] at hev
    rw [if_pos (wanted_ok hT hev.1)]
    left
    obtain ⟨v', h1, h2⟩ := opQ_ok (P := P) hE h.hp hT hev.2
    simp only [Oper.wp, h1, Oper.upon]
    exact hdone (by simp [hx]) (by rw [hx]; exact h2)
  | alloc b v obj =>
    simp only [RecOk, hx] at hev
    rw [if_pos (wanted_ok hT hev.1)]
    left
    obtain ⟨v', obj', N, h1, h2⟩ := opB_ok (P := P) (w := w) hE hT hev.2
    simp only [Oper.wp, h1, Oper.upon]
    obtain ⟨n1, n2, n3⟩ := h.num r hr b v obj hx
    have hb := n3 hnd
    have hext : Ext γ (upd γ b ⟨w.heap.size, 0, N⟩) := by
      intro c g hc
      rw [upd_other _ _ (by intro hh; subst hh; rw [hb] at hc; simp at hc)]
      exact hc
    have hown : B.own w.heap.size := (hB.up.fr h.later.fr) _ (Nat.le_refl _)
    refine hK _ _ _ (h.done hSt hr hnd hmk hext ?_ ?_ ?_ ?_ ?_ ?_)
    · intro c hc
      exact upd_other _ _ (fun hh => hc v obj (by rw [hx, hh]))
    · intro k hk; exact RowKit.Below.heap_alloc _ _ _ hk
    · intro c hc; rw [upd_other _ _ (by omega)]; exact h.fresh c hc
    · refine ⟨h.later.ext.trans hext, fun c hc => ?_, h.later.le, h.later.fr.trans (Fr.alloc _ _)⟩
      rw [upd_other _ _ (by omega)]; exact h.later.old c hc
    · rw [hx]; exact h2.val _ hext (upd_same _ _ _)
    · intro b₂ v₂ obj₂ hx₂
      rw [hx] at hx₂; injection hx₂ with e1 e2 e3; subst e1; subst e2; subst e3
      exact ⟨_, obj', upd_same _ _ _, hown, Nat.le_refl _, heap_alloc_new _ _, h2.obj _ hext (upd_same _ _ _)⟩
end
end
end Go.Ev
