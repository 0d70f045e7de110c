/- How abstract memory stands to the model's. -/
import Derived.Test.YtmplfbdnidlpoaaGreatDoorEvBase
namespace Go.Ev
noncomputable section

def toBA (s : List Nat) : ByteArray := ⟨(s.map UInt8.ofNat).toArray⟩

/-- where an abstract block lies: in which block of the model, from which cell on; how many cells that block has -/
structure Blk where
  blk : Nat
  δ : Nat
  N : Nat

abbrev G := Nat → Option Blk

def Ext (γ γ' : G) : Prop := ∀ b g, γ b = some g → γ' b = some g
theorem Ext.refl (γ : G) : Ext γ γ := fun _ _ h => h
theorem Ext.trans {a b c : G} (h : Ext a b) (k : Ext b c) : Ext a c := fun x g e => k x g (h x g e)

mutual
inductive VR (ρ : Nat → Value) (γ : G) : AV → Value → Prop
  | bool (b : Bool) : VR ρ γ (.bool b) (.bool b)
  | int (k : IntKind) (n : Int) : VR ρ γ (.int k n) (.int k n)
  | str (s : List Nat) : (∀ x ∈ s, x < 256) → VR ρ γ (.str s) (.string (toBA s))
  | nilPtr : VR ρ γ .nilPtr (.pointer none)
  | ptr (b off : Nat) (g : Blk) : γ b = some g → VR ρ γ (.ptr b off) (.pointer (some ⟨g.blk, g.δ + off, none⟩))
  | nilSlice : VR ρ γ .nilSlice (.slice none 0 0)
  | slice (b off len cap o : Nat) (g : Blk) : γ b = some g → len ≤ cap → (o = g.δ + off ∨ cap = 0) → VR ρ γ (.slice b off len cap) (.slice (some ⟨g.blk, o, none⟩) len cap)
  | oslice (b off len esz c o : Nat) (g : Blk) : γ b = some g → len ≤ c → g.δ + off + c * esz = g.N → (o = g.δ + off ∨ c = 0) →
      VR ρ γ (.oslice b off len esz) (.slice (some ⟨g.blk, o, none⟩) len c)
  | nilMap : VR ρ γ .nilMap (.map none)
  | map (b : Nat) (g : Blk) : γ b = some g → VR ρ γ (.map b) (.map (some g.blk))
  | func (fn : Fn) (c : List AV) (c' : List Value) : VRs ρ γ c c' → VR ρ γ (.func fn c) (.func fn #[] ⟨c'⟩)
  | nilFunc : VR ρ γ .nilFunc .nilFunc
  | iface (t : TypeId) (a : AV) (v : Value) : VR ρ γ a v → VR ρ γ (.iface t a) (.iface t v)
  | nilIface : VR ρ γ .nilIface .nilIface
  | agg (c : List AV) (c' : List Value) : VRs ρ γ c c' → VR ρ γ (.agg c) (.agg ⟨c'⟩)
  | tup (c : List AV) (c' : List Value) : VRs ρ γ c c' → VR ρ γ (.tup c) (.tuple ⟨c'⟩)
  | opq (k : Nat) : VR ρ γ (.opq k) (ρ k)
inductive VRs (ρ : Nat → Value) (γ : G) : List AV → List Value → Prop
  | nil : VRs ρ γ [] []
  | cons (a : AV) (v : Value) (as : List AV) (vs : List Value) : VR ρ γ a v → VRs ρ γ as vs → VRs ρ γ (a :: as) (v :: vs)
end

section
variable {ρ : Nat → Value} {γ γ' : G}

mutual
theorem VR.ext (e : Ext γ γ') : ∀ {a : AV} {v : Value}, VR ρ γ a v → VR ρ γ' a v
  | _, _, .bool b => .bool b
  | _, _, .int k n => .int k n
  | _, _, .str s h => .str s h
  | _, _, .nilPtr => .nilPtr
  | _, _, .ptr b off g h => .ptr b off g (e _ _ h)
  | _, _, .nilSlice => .nilSlice
  | _, _, .slice b off len cap o g h h1 h2 => .slice b off len cap o g (e _ _ h) h1 h2
  | _, _, .oslice b off len esz c o g h h1 h2 h3 => .oslice b off len esz c o g (e _ _ h) h1 h2 h3
  | _, _, .nilMap => .nilMap
  | _, _, .map b g h => .map b g (e _ _ h)
  | _, _, .func fn c c' h => .func fn c c' (VRs.ext e h)
  | _, _, .nilFunc => .nilFunc
  | _, _, .iface t a v h => .iface t a v (VR.ext e h)
  | _, _, .nilIface => .nilIface
  | _, _, .agg c c' h => .agg c c' (VRs.ext e h)
  | _, _, .tup c c' h => .tup c c' (VRs.ext e h)
  | _, _, .opq k => .opq k
theorem VRs.ext (e : Ext γ γ') : ∀ {as : List AV} {vs : List Value}, VRs ρ γ as vs → VRs ρ γ' as vs
  | _, _, .nil => .nil
  | _, _, .cons a v as vs h hs => .cons a v as vs (VR.ext e h) (VRs.ext e hs)
end

theorem VRs.length : ∀ {as : List AV} {vs : List Value}, VRs ρ γ as vs → as.length = vs.length
  | _, _, .nil => rfl
  | _, _, .cons _ _ _ _ _ h => by simp [VRs.length h]
theorem VRs.get : ∀ {as : List AV} {vs : List Value}, VRs ρ γ as vs → ∀ (i : Nat) (a : AV), as[i]? = some a → ∃ v, vs[i]? = some v ∧ VR ρ γ a v
  | _, _, .nil, i, a, h => by simp at h
  | _, _, .cons a v as vs h hs, i, b, hi => by
    cases i with
    | zero => simp at hi; subst hi; exact ⟨v, rfl, h⟩
    | succ i => simp at hi; obtain ⟨u, hu, hr⟩ := VRs.get hs i b hi; exact ⟨u, by simpa using hu, hr⟩
theorem VRs.append : ∀ {as : List AV} {vs : List Value} {bs : List AV} {us : List Value}, VRs ρ γ as vs → VRs ρ γ bs us → VRs ρ γ (as ++ bs) (vs ++ us)
  | _, _, _, _, .nil, h => h
  | _, _, _, _, .cons a v as vs h hs, k => .cons _ _ _ _ h (VRs.append hs k)
theorem VRs.take : ∀ {as : List AV} {vs : List Value} (n : Nat), VRs ρ γ as vs → VRs ρ γ (as.take n) (vs.take n)
  | _, _, 0, _ => by simpa using VRs.nil
  | _, _, n + 1, .nil => by simpa using VRs.nil
  | _, _, n + 1, .cons a v as vs h hs => by simpa using VRs.cons _ _ _ _ h (VRs.take n hs)
theorem VRs.drop : ∀ {as : List AV} {vs : List Value} (n : Nat), VRs ρ γ as vs → VRs ρ γ (as.drop n) (vs.drop n)
  | _, _, 0, h => by simpa using h
  | _, _, n + 1, .nil => by simpa using VRs.nil
  | _, _, n + 1, .cons a v as vs h hs => by simpa using VRs.drop n hs
/-- a list of values, one by one -/
theorem VRs.build {f : Nat → Option Value} : ∀ (as : List AV) (i : Nat), (∀ j a, as[j]? = some a → ∃ v, f (i + j) = some v ∧ VR ρ γ a v) →
    ∃ vs, VRs ρ γ as vs ∧ ∀ (j : Nat) v, vs[j]? = some v → f (i + j) = some v
  | [], _, _ => ⟨[], .nil, by simp⟩
  | a :: as, i, h => by
    obtain ⟨v, hv, hr⟩ := h 0 a rfl
    obtain ⟨vs, hs, hf⟩ := VRs.build as (i + 1) (fun j b hb => by
      obtain ⟨u, hu, hr⟩ := h (j + 1) b (by simpa using hb); exact ⟨u, by rwa [show i + 1 + j = i + (j + 1) by omega], hr⟩)
    refine ⟨v :: vs, .cons _ _ _ _ hr hs, fun j u hj => ?_⟩
    cases j with
    | zero => simp at hj; subst hj; simpa using hv
    | succ j => simp at hj; have := hf j u hj; rwa [show i + 1 + j = i + (j + 1) by omega] at this

theorem VR.one {a : AV} {v : Value} (h : VR ρ γ a v) (ha : a.one = true) : v.oneCell' = true := by
  cases h <;> first | rfl | simp [AV.one] at ha
theorem VRs.ones {as : List AV} {vs : List Value} (h : VRs ρ γ as vs) (ha : allOne as = true) : ∀ v ∈ vs, v.oneCell' = true := by
  intro v hv
  obtain ⟨i, hi, he⟩ := List.mem_iff_getElem.1 hv
  have hl := h.length
  obtain ⟨u, hu, hr⟩ := h.get i (as[i]'(by omega)) (by simp)
  have : u = v := by rw [List.getElem?_eq_getElem hi] at hu; simpa [he] using hu.symm
  subst this
  exact hr.one (allOne_spec ha _ (List.getElem_mem _))
theorem VR.cells {a : AV} {v : Value} (h : VR ρ γ a v) (ha : allOne a.cells = true) : VRs ρ γ a.cells v.cells.toList := by
  cases h <;> first | exact .cons _ _ _ _ (by constructor <;> assumption) .nil | assumption | simp [AV.cells, allOne, AV.one, bc_eq] at ha
end

/-! ### memory -/

def ER (ρ : Nat → Value) (γ : G) (es : List (AV × AV × Nat)) (es' : List MapEntry) : Prop :=
  es.length = es'.length ∧ ∀ (i : Nat) k v born, es[i]? = some (k, v, born) → ∃ e, es'[i]? = some e ∧ VR ρ γ k e.key ∧ VR ρ γ v e.val ∧ e.born = born

def OR (ρ : Nat → Value) (γ : G) (g : Blk) : AObj → Obj → Prop
  | .cells t z n, .cells c _ fz => c.size = g.N ∧ g.δ + n ≤ g.N ∧ (∀ i, ¬ (fz.1 ≤ i ∧ i < fz.2)) ∧
      ∀ i v, cellOf t z n i = some v → ∃ v', c[g.δ + i]? = some v' ∧ VR ρ γ v v'
  | .map es clock, .map es' clock' => clock' = clock ∧ ER ρ γ es es'.toList
  | .strIter s pos, .stringIter s' pos' => s' = toBA s ∧ pos' = pos ∧ (∀ x ∈ s, x < 256) ∧ g.δ = 0
  | .mapIter m since seen stepped, .mapIter m' since' seen' stepped' => (∃ gm, γ m = some gm ∧ m' = some gm.blk) ∧ since' = since ∧ seen'.toList = seen ∧ stepped' = stepped ∧ g.δ = 0
  | _, _ => False

theorem OR.ext {ρ : Nat → Value} {γ γ' : G} (e : Ext γ γ') {g : Blk} {o : AObj} {o' : Obj} (h : OR ρ γ g o o') : OR ρ γ' g o o' := by
  cases o <;> cases o' <;> simp only [OR] at h ⊢
  case cells.cells t z n c el fz => exact ⟨h.1, h.2.1, h.2.2.1, fun i v hv => let ⟨v', a, b⟩ := h.2.2.2 i v hv; ⟨v', a, b.ext e⟩⟩
  case map.map es clock es' clock' =>
    exact ⟨h.1, h.2.1, fun i k v born hi => let ⟨x, a, b, c, d⟩ := h.2.2 i k v born hi; ⟨x, a, b.ext e, c.ext e, d⟩⟩
  case strIter.stringIter => exact h
  case mapIter.mapIter =>
    obtain ⟨⟨gm, h1, h2⟩, h3⟩ := h
    exact ⟨⟨gm, e _ _ h1, h2⟩, h3⟩

structure HR (ρ : Nat → Value) (γ : G) (own : Nat → Prop) (hp : Heap) (w : World) : Prop where
  obj : ∀ b o, hp.get b = some o → ∃ g o', γ b = some g ∧ own g.blk ∧ w.heap[g.blk]? = some o' ∧ OR ρ γ g o o'
  inj : ∀ b b' o o' g g', hp.get b = some o → hp.get b' = some o' → γ b = some g → γ b' = some g' → g.blk = g'.blk → b = b'

/-- what is not one's own stays -/
structure Fr (own : Nat → Prop) (w w' : World) : Prop where
  os : w'.os = w.os
  tape : w'.tape = w.tape
  output : w'.output = w.output
  size : w.heap.size ≤ w'.heap.size
  block : ∀ k, k < w.heap.size → ¬ own k → w'.heap[k]? = w.heap[k]?

theorem Fr.refl (own : Nat → Prop) (w : World) : Fr own w w := ⟨rfl, rfl, rfl, Nat.le_refl _, fun _ _ _ => rfl⟩
theorem Fr.trans {own : Nat → Prop} {a b c : World} (h : Fr own a b) (k : Fr own b c) : Fr own a c :=
  ⟨k.os.trans h.os, k.tape.trans h.tape, k.output.trans h.output, Nat.le_trans h.size k.size,
   fun i hi ho => (k.block i (Nat.lt_of_lt_of_le hi h.size) ho).trans (h.block i hi ho)⟩
theorem Fr.drew {own : Nat → Prop} (w : World) : Fr own w w.drew := ⟨rfl, rfl, rfl, Nat.le_refl _, fun _ _ _ => rfl⟩
theorem Fr.alloc {own : Nat → Prop} (w : World) (o : Obj) : Fr own w (w.alloc o) :=
  ⟨rfl, rfl, rfl, by simp, fun k hk _ => RowKit.Below.heap_alloc _ _ _ hk⟩
theorem Fr.mono {own own' : Nat → Prop} {a b : World} (h : Fr own a b) (k : ∀ i, i < a.heap.size → own i → own' i) : Fr own' a b :=
  ⟨h.os, h.tape, h.output, h.size, fun i hi ho => h.block i hi (fun hh => ho (k i hi hh))⟩

/-- blocks yet to be made are one's own -/
def Up (own : Nat → Prop) (w : World) : Prop := ∀ k, w.heap.size ≤ k → own k
theorem Up.fr {own : Nat → Prop} {w w' : World} (h : Up own w) (f : Fr own w w') : Up own w' := fun k hk => h k (Nat.le_trans f.size hk)

def Fresh (γ : G) (nx : Nat) : Prop := ∀ b, nx ≤ b → γ b = none

theorem HR.lt {ρ : Nat → Value} {γ : G} {own : Nat → Prop} {hp : Heap} {w : World} (h : HR ρ γ own hp w) {b : Nat} {o : AObj} {g : Blk}
    (hb : hp.get b = some o) (hg : γ b = some g) : g.blk < w.heap.size := by
  obtain ⟨g', o', h1, _, h3, _⟩ := h.obj b o hb
  rw [hg] at h1; injection h1 with h1; subst h1
  rcases Nat.lt_or_ge g.blk w.heap.size with h | h
  · exact h
  · simp [Array.getElem?_eq_none h] at h3

theorem add_none (b o j : Nat) : (⟨b, o, none⟩ : Addr).add j = ⟨b, o + j, none⟩ := by
  unfold Addr.add; split
  · rename_i h; subst h; rfl
  · rfl

section
variable {ρ : Nat → Value} {γ : G} {own : Nat → Prop} {hp : Heap} {w : World} {P : Program}

/-- cells that are read -/
theorem readAt_cells (h : HR ρ γ own hp w) {b off k : Nat} {cs : List AV} (hr : readAt hp b off k = some cs) :
    ∃ g, γ b = some g ∧ cs.length = k ∧ ∃ vs, VRs ρ γ cs vs ∧ ∀ (j : Nat) v, vs[j]? = some v → w.cell? ⟨g.blk, g.δ + off + j, none⟩ = some v := by
  simp only [readAt, ob_some] at hr
  obtain ⟨o, ho, ⟨t, z, n⟩, hc, hcs⟩ := hr
  cases o <;> simp [AObj.cells?] at hc
  obtain ⟨rfl, rfl, rfl⟩ := hc
  obtain ⟨g, o', hg, _, hw, hor⟩ := h.obj b _ ho
  cases o' <;> simp only [OR] at hor
  rename_i t z n c el fz
  obtain ⟨hl, hcell⟩ := cellsFrom_spec _ _ _ _ _ _ hcs
  obtain ⟨vs, hvs, hf⟩ := VRs.build (ρ := ρ) (γ := γ) (f := fun j => c[g.δ + j]?) cs off (fun j a ha => hor.2.2.2 _ _ (hcell j a ha))
  refine ⟨g, hg, hl, vs, hvs, fun j v hj => ?_⟩
  have := hf j v hj
  simp only [World.cell?, hw]
  rw [show g.δ + off + j = g.δ + (off + j) by omega]
  simpa using this

theorem run_loadCells_of {a : Addr} {vs : List Value} {b o : Nat} (ha : a = ⟨b, o, none⟩) (h : ∀ (j : Nat) v, vs[j]? = some v → w.cell? ⟨b, o + j, none⟩ = some v) :
    (loadCells a vs.length).run P w = .ok vs.toArray w := by
  subst ha
  exact run_loadCells_list w _ vs (fun j v hj => by rw [add_none]; exact h j v hj)

/-- what a store of cells leaves -/
structure Wrote (w w' : World) (blk o : Nat) (vs : List Value) : Prop where
  os : w'.os = w.os
  tape : w'.tape = w.tape
  output : w'.output = w.output
  size : w'.heap.size = w.heap.size
  other : ∀ k, k ≠ blk → w'.heap[k]? = w.heap[k]?
  same : ∀ c e fz, w.heap[blk]? = some (.cells c e fz) → ∃ c', w'.heap[blk]? = some (.cells c' e fz) ∧ c'.size = c.size ∧
    ∀ p, c'[p]? = if o ≤ p ∧ p < o + vs.length then vs[p - o]? else c[p]?

theorem run_storeCells {blk o : Nat} : ∀ (vs : List Value) (i : Nat) (w : World) (c : Array Value) (e : TypeId) (fz : Nat × Nat),
    w.heap[blk]? = some (.cells c e fz) → o + i + vs.length ≤ c.size → (∀ k, k < c.size → ¬ (fz.1 ≤ k ∧ k < fz.2)) → (∀ v ∈ vs, v.oneCell' = true) →
    ∃ w', (storeCells ⟨blk, o, none⟩ vs i).run P w = .ok () w' ∧ Wrote w w' blk (o + i) vs
  | [], i, w, c, e, fz, hw, _, _, _ => by
    refine ⟨w, by simp [storeCells], rfl, rfl, rfl, rfl, fun _ _ => rfl, fun c' e' fz' h => ⟨c', h, rfl, fun p => ?_⟩⟩
    rw [if_neg (by simp)]
  | v :: vs, i, w, c, e, fz, hw, hs, hf, h1 => by
    simp only [List.length_cons] at hs
    have hcell : w.cell? ⟨blk, o + i, none⟩ = some (c[o + i]'(by omega)) := by simp [World.cell?, hw]
    have hfz : w.frozen? ⟨blk, o + i, none⟩ = false := by
      simp only [World.frozen?, hw]
      have := hf (o + i) (by omega)
      rw [Bool.eq_false_iff]; intro hh
      simp at hh
      exact this hh
    have hw1 : (w.setCell ⟨blk, o + i, none⟩ v).heap[blk]? = some (.cells (c.setIfInBounds (o + i) v) e fz) := by
      simp [World.setCell, Array.getElem?_modify, hw]
    obtain ⟨w', hr, hwr⟩ := run_storeCells (o := o) vs (i + 1) (w.setCell ⟨blk, o + i, none⟩ v) (c.setIfInBounds (o + i) v) e fz hw1 (by simp; omega) (by simpa using hf)
      (fun u hu => h1 u (List.mem_cons_of_mem _ hu))
    refine ⟨w', ?_, hwr.os, hwr.tape, hwr.output, by rw [hwr.size]; simp, fun k hk => ?_, fun c0 e0 fz0 h0 => ?_⟩
    · simp only [storeCells, Sem.run_bind, add_none, run_store _ _ _ _ _ (h1 v (List.mem_cons_self ..)), hcell, hfz, Bool.false_eq_true, if_false, Result.andThen_ok]
      exact hr
    · rw [hwr.other k hk, RowKit.Below.heap_setCell _ _ _ _ hk]
    · rw [hw] at h0; injection h0 with h0; injection h0 with ha hb hc; subst ha; subst hb; subst hc
      obtain ⟨c', hc', hsz, hp⟩ := hwr.same _ _ _ hw1
      refine ⟨c', hc', by rw [hsz]; simp, fun p => ?_⟩
      rw [hp p]
      simp only [List.length_cons]
      by_cases hpi : p = o + i
      · subst hpi
        rw [if_neg (by omega), if_pos (by omega)]
        simp [show o + i < c.size by omega]
      · by_cases h2 : o + (i + 1) ≤ p ∧ p < o + (i + 1) + vs.length
        · rw [if_pos h2, if_pos (by omega), show p - (o + i) = (p - (o + (i + 1))) + 1 by omega]; simp
        · rw [if_neg h2, if_neg (by omega)]
          rw [Array.getElem?_setIfInBounds_ne (by omega)]
end

end
end Go.Ev
