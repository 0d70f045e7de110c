/- Loud operations: the rest. -/
import Derived.Test.YtmplfbdnidlpoaaGreatDoorEvOps8
namespace Go.Ev
noncomputable section

section
variable {ρ : Nat → Value} {γ : G} {P : Program} {E : Env} {w : World} {own : Nat → Prop} {hp : Heap} {nx : Nat}

theorem clear_ok (hE : EnvOk P E) (hR : HR ρ γ own hp w) {t : Nat} {x : AV} {x' : Value} {hp' : Heap} (hx : VR ρ γ x x')
    (h : clearA E t hp x = some hp') (ats : Array TypeId) (ty : TypeId) (xs : Array Value) (hu : ∃ d, ∀ w, (underlying t).run P w = .ok d w) (h0 : ats[0]? = some t) (h1 : xs[0]? = some x') :
    ∃ w', (Builtin.clear_ ats ty xs).run P w = .ok (.tuple #[]) w' ∧ HR ρ γ own hp' w' ∧ Fr own w w' := by
  obtain ⟨ud, hud⟩ := hu
  have empty : ∀ {b off : Nat} {z : List AV} {g : Blk}, γ b = some g → writeAt hp b off (rep 0 z) = some hp' → HR ρ γ own hp' w := by
    intro b off z g hg hw
    obtain ⟨w2, hst, hR2, _⟩ := writeAt_ok (P := P) hR hw (.nil) hg
    simp [storeCells] at hst
    rw [hst]; exact hR2
  have main : ∀ {b off len c o : Nat} {g : Blk}, γ b = some g → (o = g.δ + off ∨ c = 0) → len ≤ c →
      (∃ ti, E.tys.get t = some ti ∧ ∃ e, ti.slice? = some e ∧ ∃ ei, E.tys.get e = some ei ∧ ∃ z, ei.zero = some z ∧ Nat.ble len 100000 = true ∧ writeAt hp b off (rep len z) = some hp') →
      x' = .slice (some ⟨g.blk, o, none⟩) len c →
      ∃ w', (Builtin.clear_ ats ty xs).run P w = .ok (.tuple #[]) w' ∧ HR ρ γ own hp' w' ∧ Fr own w w' := by
    rintro b off len c o g hg ho hlc ⟨ti, hti, e, hd, ei, hei, z, hz, _, hw⟩ rfl
    cases len with
    | zero =>
      refine ⟨w, ?_, empty hg hw, Fr.refl _ _⟩
      simp [Builtin.clear_, h0, h1, hud]
    | succ n =>
      have ho := ho.resolve_right (by omega)
      subst ho
      obtain ⟨sd, hs1, hs2⟩ := (hE.tys _ _ hti).run_underlying
      rw [TyI.slice?_some.1 hd] at hs1
      cases sd <;> simp only [DOk] at hs1
      subst hs1
      obtain ⟨zv, hz1, hz2, _⟩ := (hE.tys _ _ hei).run_zero (ρ := ρ) (γ := γ) hz
      obtain ⟨w2, hst, hR2, hfr2⟩ := writeAt_ok (P := P) hR hw (hz2.rep (n + 1)) hg
      refine ⟨w2, ?_, hR2, hfr2⟩
      have hzc : (Builtin.zeroCells zv.cells (n + 1)).toList = rep (n + 1) zv.cells.toList := by
        by_cases h0 : zv.cells.size = 0
        · have hnil : zv.cells = #[] := by simpa using h0
          have : (rep (n + 1) ([] : List Value)).length = 0 := by rw [length_rep]; simp
          rw [Builtin.zeroCells, hnil]
          simp only [List.length_eq_zero_iff] at this
          simp [this]
        · rw [Builtin.zeroCells, range_rep _ h0]
      simp only [Builtin.clear_, h0, h1, Sem.run_bind, hs2, Result.andThen_ok, hz1, hzc, hst, Sem.run_pure]
  cases hx <;> simp only [clearA, ob_some, og_some] at h <;> try (simp at h; done)
  case nilSlice =>
    obtain ⟨_, _, h⟩ := h
    injection h with h; subst h
    refine ⟨w, ?_, hR, Fr.refl _ _⟩
    simp [Builtin.clear_, h0, h1, hud]
  case slice b off len cap o g hg hlc ho => exact main hg ho hlc h rfl
  case oslice b off len esz c o g hg hlc hN ho => exact main hg ho hlc h rfl

theorem rangeMap_ok (hE : EnvOk P E) (hR : HR ρ γ own hp w) (hf : Fresh γ nx) (hup : Up own w) {t : Nat} {ti : TyI} {p : Nat × Nat} {m : AV} {m' : Value} (hm : VR ρ γ m m')
    (hti : E.tys.get t = some ti) (hd : ti.map? = some p) {r : OpR} (h : opRangeMap hp nx m = some r) :
    ∃ v hp' nx' v' w' γ', r = .val v hp' nx' ∧ (Instr.range t m').run P w = .ok v' w' ∧ Left ρ γ own w nx v hp' nx' γ' v' w' := by
  have hu := map_ty (P := P) (p := p) hE ⟨ti, hti, TyI.map?_some.1 hd⟩
  simp only [opRangeMap, ob_some, AV.map?_some, AObj.map?_some] at h
  obtain ⟨b, rfl, o, ho, ⟨es, clock⟩, rfl, h⟩ := h
  injection h with h; subst h
  cases hm with
  | map _ g hg =>
    obtain ⟨es', hw, her, hown⟩ := hR.map ho hg
    have hext := upd_ext (nx := nx) hf ⟨w.heap.size, 0, 0⟩
    refine ⟨_, _, _, .pointer (some ⟨w.heap.size, 0, none⟩), w.alloc (.mapIter (some g.blk) clock #[] clock), upd γ nx ⟨w.heap.size, 0, 0⟩, rfl, ?_, hext, ?_, ?_, upd_fresh hf _, Nat.le_succ _, Fr.alloc _ _, Old.upd _ _ _⟩
    · simp [Instr.range, hu, run_getObj_map hw]
    · exact .ptr nx 0 ⟨w.heap.size, 0, 0⟩ (upd_same _ _ _)
    · refine hR.alloc hf hup ?_
      simp only [OR]
      refine ⟨⟨g, hext _ _ hg, rfl⟩, ?_⟩
      simp

theorem getD_u8 (s : List Nat) (hs : ∀ x ∈ s, x < 256) (i : Nat) : ((toBA s).get! i).toNat = s[i]?.getD 0 := by
  show ((s.map UInt8.ofNat).toArray[i]!).toNat = _
  by_cases h : i < s.length
  · simp [h]
    exact hs _ (List.getElem_mem _)
  · simp [h]; rfl

theorem decodeA_eq (s : List Nat) (hs : ∀ x ∈ s, x < 256) (i : Nat) : Utf8.decode (toBA s) i = decodeA s i := by
  rw [Lib.decode_at, decodeA, toBA_size]
  simp only [getD_u8 s hs, nth_eq, List.getElem?_drop, Nat.add_zero]
  rfl

theorem elemNat_eq (x : Nat) : ∀ (l : List Nat), elemNat x l = l.contains x
  | [] => rfl
  | y :: ys => by
    simp only [elemNat, bc_eq, elemNat_eq x ys, List.contains_cons]
    by_cases h : x = y
    · subst h; simp
    · have : Nat.beq x y = false := by rw [Bool.eq_false_iff]; intro hh; exact h (beq_iff.1 hh)
      simp [this, h]

theorem strNext_ok (hR : HR ρ γ own hp w) {it : AV} {it' : Value} (hi : VR ρ γ it it') {r : OpR} (h : opNext hp nx true it = some r) (ty : TypeId) :
    ∃ v hp' v' w', r = .val v hp' nx ∧ (Instr.next it' true ty).run P w = .ok v' w' ∧ VR ρ γ v v' ∧ HR ρ γ own hp' w' ∧ Fr own w w' := by
  simp only [opNext, ob_some, og_some, AV.ptr?_some] at h
  obtain ⟨⟨b, off⟩, rfl, h0, o, ho, h⟩ := h
  have h0 := beq_iff.1 h0
  simp only at h0
  subst h0
  cases hi with
  | ptr _ _ g hg =>
    obtain ⟨g', o', hg', hown, hw, hor⟩ := hR.obj b _ ho
    rw [hg] at hg'; injection hg' with hg'; subst hg'
    cases o <;> simp only [] at h <;> try (simp at h; done)
    rename_i t pos
    cases o' <;> simp only [OR] at hor
    rename_i s' pos'
    obtain ⟨rfl, rfl, hlt, hδ⟩ := hor
    have hgo : (getObj g.blk).run P w = .ok (.stringIter (toBA t) pos') w := by simp [getObj, Sem.run, hw]
    simp only [og_some, bc_eq] at h
    obtain ⟨_, h⟩ := h
    split at h
    · rename_i hle
      have hle := ble_iff.1 hle
      simp only [Nat.add_eq] at hle
      injection h with h; subst h
      refine ⟨_, _, .tuple #[.bool true, .int .i64 pos', .int .i32 (decodeA t pos').1], { w with heap := w.heap.setIfInBounds g.blk (.stringIter (toBA t) (pos' + (decodeA t pos').2)) }, rfl, ?_, ?_, ?_, setObj_fr _ hown⟩
      · simp only [Instr.next, hδ, Nat.zero_add, Sem.run_bind, hgo, Result.andThen_ok, toBA_size, if_pos (show pos' < t.length by omega), decodeA_eq t hlt]
        simp [setObj, Sem.run, hw, goInt]
      · exact .tup _ _ (.cons _ _ _ _ (.bool _) (.cons _ _ _ _ (.int _ _) (.cons _ _ _ _ (.int _ _) .nil)))
      · refine hR.turn ⟨_, ho⟩ hg (setObj_same _ (hR.lt ho hg)) (fun k hk => setObj_other _ hk) ?_
        simp only [OR]
        exact ⟨trivial, rfl, hlt, hδ⟩
    · rename_i hle
      have hle : ¬ (pos' < t.length) := fun hh => hle (ble_iff.2 hh)
      injection h with h; subst h
      refine ⟨_, _, .tuple #[.bool false], w, rfl, ?_, .tup _ _ (.cons _ _ _ _ (.bool _) .nil), hR, Fr.refl _ _⟩
      simp only [Instr.next, hδ, Nat.zero_add, Sem.run_bind, hgo, Result.andThen_ok, toBA_size, if_neg hle, Sem.run_pure]

theorem leftOf_eq (seen : List Nat) : ∀ (es : List (AV × AV × Nat)), leftOf seen es = es.filter fun e => !seen.contains e.2.2
  | [] => rfl
  | e :: es => by
    simp only [leftOf, bc_eq, leftOf_eq seen es, elemNat_eq, List.filter_cons]
    cases seen.contains e.2.2 <;> simp

theorem ER.cons {e : AV × AV × Nat} {es : List (AV × AV × Nat)} {l : List MapEntry} (h : ER ρ γ (e :: es) l) :
    ∃ x xs, l = x :: xs ∧ VR ρ γ e.1 x.key ∧ VR ρ γ e.2.1 x.val ∧ x.born = e.2.2 ∧ ER ρ γ es xs := by
  cases l with
  | nil => simp [ER] at h
  | cons x xs =>
    obtain ⟨y, hy, h1, h2, h3⟩ := h.2 0 e.1 e.2.1 e.2.2 rfl
    simp at hy; subst hy
    refine ⟨x, xs, rfl, h1, h2, h3, by simpa using h.1, fun i k v b hi => ?_⟩
    obtain ⟨z, hz, hz2⟩ := h.2 (i + 1) k v b (by simpa using hi)
    exact ⟨z, by simpa using hz, hz2⟩
theorem ER.nil {l : List MapEntry} (h : ER ρ γ [] l) : l = [] := by
  have := h.1; simp at this; exact List.length_eq_zero_iff.1 this.symm

theorem leftOf_ok (seen : List Nat) (f : MapEntry → Bool) (hf : ∀ x, f x = !seen.contains x.born) : ∀ (es : List (AV × AV × Nat)) (l : List MapEntry), ER ρ γ es l → ER ρ γ (leftOf seen es) (l.filter f)
  | [], l, h => by rw [h.nil]; exact ⟨rfl, by simp [leftOf]⟩
  | e :: es, l, h => by
    obtain ⟨x, xs, rfl, h1, h2, h3, h4⟩ := h.cons
    have ih := leftOf_ok seen f hf es xs h4
    simp only [leftOf, bc_eq, elemNat_eq, List.filter_cons, hf, h3]
    cases hc : seen.contains e.2.2 with
    | true => simpa [hc] using ih
    | false =>
      simp only [Bool.not_false, Bool.false_eq_true, if_false, if_true]
      refine ⟨by simp [ih.1], fun i k v b hi => ?_⟩
      cases i with
      | zero => simp at hi; obtain ⟨rfl⟩ := hi; exact ⟨x, rfl, h1, h2, h3⟩
      | succ i => exact (by simpa using ih.2 i k v b (by simpa using hi))

theorem anyOld_ok {last : Nat} : ∀ (es : List (AV × AV × Nat)) (l : List MapEntry), ER ρ γ es l → anyOld last es = true → l.all (fun e => decide (e.born ≥ last)) = false
  | [], _, _, h => by simp [anyOld] at h
  | e :: es, l, h, ha => by
    obtain ⟨x, xs, rfl, h1, h2, h3, h4⟩ := h.cons
    simp only [anyOld, bc_eq] at ha
    split at ha
    · rename_i hle
      have hle := ble_iff.1 hle
      simp only [Nat.add_eq] at hle
      simp only [List.all_cons, Bool.and_eq_false_iff]
      left; simp; omega
    · simp only [List.all_cons, Bool.and_eq_false_iff]
      right; exact anyOld_ok es xs h4 ha

theorem mapNext_ok (hR : HR ρ γ own hp w) {it : AV} {it' : Value} (hi : VR ρ γ it it') {r : OpR} (h : opNext hp nx false it = some r) (ty : TypeId) :
    ∃ v hp' v' w', r = .val v hp' nx ∧ (Instr.next it' false ty).run P w = .ok v' w' ∧ VR ρ γ v v' ∧ HR ρ γ own hp' w' ∧ Fr own w w' := by
  simp only [opNext, ob_some, og_some, AV.ptr?_some] at h
  obtain ⟨⟨b, off⟩, rfl, h0, o, ho, h⟩ := h
  have h0 := beq_iff.1 h0
  simp only at h0
  subst h0
  cases hi with
  | ptr _ _ g hg =>
    obtain ⟨g', o', hg', hown, hw, hor⟩ := hR.obj b _ ho
    rw [hg] at hg'; injection hg' with hg'; subst hg'
    cases o <;> simp only [] at h <;> try (simp at h; done)
    rename_i m since seen last
    cases o' <;> simp only [OR] at hor
    rename_i m' since' seen' last'
    obtain ⟨⟨gm, hgm, rfl⟩, rfl, rfl, rfl, hδ⟩ := hor
    have hgo : (getObj g.blk).run P w = .ok (.mapIter (some gm.blk) since' seen' last') w := by simp [getObj, Sem.run, hw]
    simp only [og_some, ob_some, AObj.map?_some] at h
    obtain ⟨_, om, hom, ⟨es, clock⟩, rfl, hold, h⟩ := h
    obtain ⟨es', hwm, her, _⟩ := hR.map hom hgm
    have hgm' := run_getObj_map (P := P) hwm
    have hchk : (!seen'.isEmpty && !es'.isEmpty && es'.all (fun e => decide (e.born ≥ last'))) = false := by
      rw [Bool.or_eq_true, Bool.or_eq_true] at hold
      rcases hold with (h1 | h1) | h1
      · have : seen'.isEmpty = true := by simpa using h1
        rw [this]; rfl
      · have he : es = [] := by simpa using h1
        subst he
        have : es'.isEmpty = true := by have := her.nil; simpa using this
        rw [this]; simp
      · have := anyOld_ok _ _ her h1
        rw [← Array.all_toList, this]; simp
    have hlo := leftOf_ok seen'.toList (fun e => !seen'.contains e.born) (fun x => by simp) es es'.toList her
    have hle : (es'.filter fun e => !seen'.contains e.born).toList = es'.toList.filter fun e => !seen'.contains e.born := by simp
    split at h
    · rename_i hl
      injection h with h; subst h
      rw [hl] at hlo
      have h0 := hlo.nil
      have hel : (es'.filter fun e => !seen'.contains e.born) = #[] := by apply Array.ext'; rw [hle, h0]
      refine ⟨_, _, .tuple #[.bool false], w, rfl, ?_, .tup _ _ (.cons _ _ _ _ (.bool _) .nil), hR, Fr.refl _ _⟩
      simp only [Instr.next, hδ, Nat.zero_add, Sem.run_bind, hgo, hgm', Result.andThen_ok, hchk, Bool.false_eq_true, if_false, hel]
      simp [Question.forced]
    · rename_i k v born hl
      simp only [og_some] at h
      obtain ⟨hb, h⟩ := h
      have hb := ble_iff.1 hb
      simp only [Nat.add_eq] at hb
      injection h with h; subst h
      rw [hl] at hlo
      obtain ⟨x, xs, h0, h1, h2, h3, h4⟩ := hlo.cons
      have hxs := h4.nil
      subst hxs
      simp only at h1 h2 h3
      have hel : (es'.filter fun e => !seen'.contains e.born) = #[x] := by apply Array.ext'; rw [hle, h0]
      refine ⟨_, _, .tuple #[.bool true, x.key, x.val], { w with heap := w.heap.setIfInBounds g.blk (.mapIter (some gm.blk) since' (seen'.push x.born) clock) }, rfl, ?_, ?_, ?_, setObj_fr _ hown⟩
      · have hx1 : decide (x.born < since') = true := by simp; omega
        have hx2 : decide (x.born ≥ since') = false := by simp; omega
        simp only [Instr.next, hδ, Nat.zero_add, Sem.run_bind, hgo, hgm', Result.andThen_ok, hchk, Bool.false_eq_true, if_false, hel]
        simp [Question.forced, setObj, Sem.run, hw, show x.born < since' by omega, show ¬ (since' ≤ x.born) by omega]
      · exact .tup _ _ (.cons _ _ _ _ (.bool _) (.cons _ _ _ _ h1 (.cons _ _ _ _ h2 .nil)))
      · refine hR.turn ⟨_, ho⟩ hg (setObj_same _ (hR.lt ho hg)) (fun k hk => setObj_other _ hk) ?_
        simp only [OR]
        exact ⟨⟨gm, hgm, rfl⟩, trivial, by simp [h3], trivial, hδ⟩
    · simp at h

theorem freeze_new (w : World) (c : Array Value) (e : TypeId) (n : Nat) : (w.alloc (.cells c e)).freeze ⟨w.heap.size, n, none⟩ 1 = w.alloc (.cells c e (n, n + 1)) := by
  simp only [World.freeze, World.alloc, if_neg (show ¬ (1 = 0) by decide)]
  congr 1
  apply Array.ext
  · simp
  · intro i h1 h2
    simp only [Array.getElem_modify, Array.getElem_push]
    split
    · rename_i hi; subst hi; simp
    · rename_i hi
      split
      · rfl
      · exfalso; simp at h2; omega

theorem bytes_ok (_hE : EnvOk P E) (_hR : HR ρ γ own hp w) (_hf : Fresh γ nx) (_hup : Up own w) {src dst : Nat} {x : AV} {x' : Value} (_hx : VR ρ γ x x') {r : OpR} (h : opBytes E src dst hp nx x = some r) :
    ∃ v hp' nx' v' w' γ', r = .val v hp' nx' ∧ (convert src dst x').run P w = .ok v' w' ∧ Left ρ γ own w nx v hp' nx' γ' v' w' := by
  cases h

/-- a deferred call -/
def DfR (ρ : Nat → Value) (γ : G) (p : AV × List AV) (d : Deferred) : Prop :=
  ∃ g c c' as', p.1 = .func (.func g) c ∧ VRs ρ γ c c' ∧ VRs ρ γ p.2 as' ∧ d = { target := .fn (.func g) ⟨c'⟩, args := ⟨as'⟩ }
theorem DfR.ext {γ' : G} (e : Ext γ γ') {p : AV × List AV} {d : Deferred} (h : DfR ρ γ p d) : DfR ρ γ' p d :=
  let ⟨g, c, c', as', h1, h2, h3, h4⟩ := h; ⟨g, c, c', as', h1, h2.ext e, h3.ext e, h4⟩

/-- how an answer stands to the model's -/
def OpRR (ρ : Nat → Value) (γ : G) (own : Nat → Prop) (w : World) (nx : Nat) (run : Result Next) : OpR → Prop
  | .val v hp' nx' => ∃ v' w' γ', (run = .ok (.value v') w' ∨ (run = .ok .skip w' ∧ v' = undef)) ∧ Left ρ γ own w nx v hp' nx' γ' v' w'
  | .enter f args => ∃ args', run = .ok (.enter f ⟨args'⟩) w ∧ VRs ρ γ args args'
  | .defer f args => ∃ d, run = .ok (.defer d) w ∧ DfR ρ γ (f, args) d
  | .recover => run = .ok .recover w
  | .pan v => ∃ v', run = .halt (.panic v') w ∧ VR ρ γ v v'

end

section
variable {ρ : Nat → Value} {γ : G} {P : Program} {E : Env} {w : World} {own : Nat → Prop} {hp : Heap} {nx : Nat}

/-- an operation of one value that leaves blocks' numbers -/
theorem Left.still {v : AV} {v' : Value} {hp' : Heap} {w' : World} (h1 : VR ρ γ v v') (h2 : HR ρ γ own hp' w') (h3 : Fr own w w') (hf : Fresh γ nx) : Left ρ γ own w nx v hp' nx γ v' w' :=
  ⟨Ext.refl _, h1, h2, hf, Nat.le_refl _, h3, Old.refl _ _⟩

theorem isString_ok {ti : TyI} (h : ti.isString = true) : ti.d = .string := by
  unfold TyI.isString at h; split at h <;> simp_all

theorem tup0 : VR ρ γ (.tup []) undef := .tup _ _ .nil

theorem callFunc_ok (hE : EnvOk P E) {f : AV} {f' : Value} {args : List AV} {args' : List Value} (hf0 : VR ρ γ f f') (ha : VRs ρ γ args args') (hR : HR ρ γ own hp w) (hf : Fresh γ nx) {r : OpR}
    (h : callF E hp nx f args = some r) :
    ∃ g c c' , f = .func (.func g) c ∧ f' = .func (.func g) #[] ⟨c'⟩ ∧ VRs ρ γ c c' ∧ OpRR ρ γ own w nx ((callFunc g ⟨args' ++ c'⟩).run P w) r := by
  simp only [callF, ob_some, AV.func?_some] at h
  obtain ⟨⟨g, c⟩, rfl, h⟩ := h
  cases hf0 with
  | func _ _ c' hc =>
    refine ⟨g, c, c', rfl, rfl, hc, ?_⟩
    cases hext : E.ext.get g with
    | none =>
      simp only [hext, oc_none, ob_some] at h
      obtain ⟨fn, hfn, h⟩ := h
      injection h with h; subst h
      exact ⟨_, (hE.fns g fn hfn).2 _ _, ha.append hc⟩
    | some k =>
      simp only [hext, oc_some, ob_some] at h
      obtain ⟨v, hv, h⟩ := h
      injection h with h; subst h
      obtain ⟨v', h1, h2⟩ := hE.ext g k hext ρ γ own _ _ v (args' ++ c') w hR hv (ha.append hc)
      exact ⟨v', w, γ, .inl h1, Left.still h2 hR (Fr.refl _ _) hf⟩

theorem builtinC_ok (hE : EnvOk P E) (hR : HR ρ γ own hp w) (hf : Fresh γ nx) (hup : Up own w) {b : Builtin} {ats : Array TypeId} {args : List AV} {args' : List Value} (ha : VRs ρ γ args args') {r : OpR}
    (h : builtinC E b ats.toList args hp nx = some r) (ty : TypeId) (cs : Array Bool) : OpRR ρ γ own w nx ((builtin b ats ty cs ⟨args'⟩).run P w) r := by
  unfold builtinC at h
  split at h
  · rename_i st xt _ s x _ hat
    simp only [ob_some] at h
    obtain ⟨⟨v, hp', nx'⟩, h1, h⟩ := h
    injection h with h; subst h
    cases ha with
    | cons _ s' _ rest hs hr =>
      cases hr with
      | cons _ x' _ rest' hx hr =>
        have g0 : ats[0]? = some st := by rw [← Array.getElem?_toList, hat]; rfl
        have g1 : ats[1]? = some xt := by rw [← Array.getElem?_toList, hat]; rfl
        obtain ⟨v', w', γ', k1, k2⟩ := append_ok (P := P) hE hR hf hup hs hx h1 ats ty ⟨s' :: x' :: rest'⟩ g0 g1 rfl rfl
        exact ⟨v', w', γ', .inl (by simp [builtin, k1]), k2⟩
  · rename_i st _ d x _ hat
    simp only [ob_some] at h
    obtain ⟨⟨n, hp'⟩, h1, h⟩ := h
    injection h with h; subst h
    cases ha with
    | cons _ s' _ rest hs hr =>
      cases hr with
      | cons _ x' _ rest' hx hr =>
        have g0 : ats[0]? = some st := by rw [← Array.getElem?_toList, hat]; rfl
        obtain ⟨w', k1, k2, k3⟩ := copy_ok (P := P) hE hR hs hx h1 ats ty ⟨s' :: x' :: rest'⟩ g0 rfl rfl
        exact ⟨.int .i64 n, w', γ, .inl (by simp [builtin, k1]), Left.still (.int _ _) k2 k3 hf⟩
  · rename_i t _ m k _ hat
    cases ha with
    | cons _ s' _ rest hs hr =>
      cases hr with
      | cons _ x' _ rest' hx hr =>
        have g0 : ats[0]? = some t := by rw [← Array.getElem?_toList, hat]; rfl
        obtain ⟨hp', w', rfl, k1, k2, k3⟩ := delete_ok (P := P) hE hR hs hx h ats ty ⟨s' :: x' :: rest'⟩ g0 rfl rfl
        exact ⟨.tuple #[], w', γ, .inl (by simp [builtin, k1]), Left.still (.tup _ _ .nil) k2 k3 hf⟩
  · rename_i t _ x _ hat
    simp only [ob_some] at h
    obtain ⟨hp', h1, h⟩ := h
    injection h with h; subst h
    cases ha with
    | cons _ s' _ rest hs hr =>
      have g0 : ats[0]? = some t := by rw [← Array.getElem?_toList, hat]; rfl
      obtain ⟨ti, hti, h1⟩ : ∃ ti, E.tys.get t = some ti ∧ clearA E t hp x = some hp' := by
        have h2 := h1
        cases x <;> simp only [clearA, ob_some] at h2 <;> try (simp at h2; done)
        all_goals (obtain ⟨ti, hti, _⟩ := h2; exact ⟨ti, hti, h1⟩)
      obtain ⟨sd, _, hs2⟩ := (hE.tys _ _ hti).run_underlying
      obtain ⟨w', k1, k2, k3⟩ := clear_ok (P := P) hE hR hs h1 ats ty ⟨s' :: rest⟩ ⟨sd, hs2⟩ g0 rfl
      exact ⟨.tuple #[], w', γ, .inl (by simp [builtin, k1]), Left.still (.tup _ _ .nil) k2 k3 hf⟩
  · rename_i v _
    simp only [ob_some, AV.iface?_some] at h
    obtain ⟨p, rfl, h⟩ := h
    injection h with h; subst h
    cases ha with
    | cons _ s' _ rest hs hr =>
      cases hs with
      | iface t a v' hv =>
        exact ⟨.iface p.1 v', by simp [builtin, Instr.panic], .iface _ _ _ hv⟩
  · injection h with h; subst h
    simp [OpRR, builtin]
  · simp at h

/-- **A loud operation** -/
theorem opC_ok (hE : EnvOk P E) (hR : HR ρ γ own hp w) (hf : Fresh γ nx) (hup : Up own w) {o : Oper} {s : St} {a : Act} (hT : TmR ρ γ s.tm s.nt a) (hhp : s.hp = hp) (hnx : s.nx = nx) {r : OpR}
    (h : opC E o.op s = some r) : OpRR ρ γ own w nx ((execOp a.eval o).run P w) r := by
  obtain ⟨dst, op, ty, pos, after, guard⟩ := o
  subst hhp; subst hnx
  simp only at h
  cases op <;> simp only [opC] at h <;> try (simp at h; done)
  case store t x y =>
    simp only [opStore, ob_some] at h
    obtain ⟨p, hp1, v, hv, hp', hs, h⟩ := h
    injection h with h; subst h
    obtain ⟨w', k1, k2, k3⟩ := store_ok (P := P) hE hR (opnd_ok hT hp1) (opnd_ok hT hv) hs
    exact ⟨undef, w', γ, .inr ⟨by simp [execOp, k1], rfl⟩, Left.still tup0 k2 k3 hf⟩
  case mapUpdate t m k x =>
    simp only [ob_some] at h
    obtain ⟨mv, hm, kv, hk, v, hv, h⟩ := h
    obtain ⟨hp', w', rfl, k1, k2, k3⟩ := mapUpdate_ok (P := P) hE hR (opnd_ok hT hm) (opnd_ok hT hk) (opnd_ok hT hv) h
    exact ⟨undef, w', γ, .inr ⟨by simp [execOp, k1], rfl⟩, Left.still tup0 k2 k3 hf⟩
  case range t x =>
    simp only [ob_some] at h
    obtain ⟨ti, hti, p, hd, m, hm, h⟩ := h
    obtain ⟨v, hp', nx', v', w', γ', rfl, k1, k2⟩ := rangeMap_ok (P := P) hE hR hf hup (opnd_ok hT hm) hti hd h
    exact ⟨v', w', γ', .inl (by simp [execOp, k1]), k2⟩
  case next it isS =>
    simp only [ob_some] at h
    obtain ⟨iv, hi, h⟩ := h
    cases isS
    · obtain ⟨v, hp', v', w', rfl, k1, k2, k3, k4⟩ := mapNext_ok (P := P) hR (opnd_ok hT hi) h ty
      exact ⟨v', w', γ, .inl (by simp [execOp, k1]), Left.still k2 k3 k4 hf⟩
    · obtain ⟨v, hp', v', w', rfl, k1, k2, k3, k4⟩ := strNext_ok (P := P) hR (opnd_ok hT hi) h ty
      exact ⟨v', w', γ, .inl (by simp [execOp, k1]), Left.still k2 k3 k4 hf⟩
  case convert src dst x =>
    simp only [ob_some] at h
    obtain ⟨xv, hx, h⟩ := h
    obtain ⟨v, hp', nx', v', w', γ', rfl, k1, k2⟩ := bytes_ok (P := P) hE hR hf hup (opnd_ok hT hx) h
    exact ⟨v', w', γ', .inl (by simp [execOp, k1]), k2⟩
  case call c =>
    simp only [callC, ob_some] at h
    obtain ⟨args, hargs, h⟩ := h
    have hA := opnds_ok hT _ _ hargs
    have hlist : c.args.map a.eval = ⟨c.args.toList.map a.eval⟩ := by apply Array.ext'; simp
    split at h
    · rename_i b hb
      have := builtinC_ok (P := P) hE hR hf hup hA h ty (c.args.map fun | .const _ => true | _ => false)
      rw [← hlist] at this
      have he : (execOp a.eval { dst := dst, op := .call c, type := ty, pos := pos, after := after, guard := guard }).run P w =
          (builtin b c.argTypes ty (c.args.map fun | .const _ => true | _ => false) (c.args.map a.eval)).run P w := by
        simp only [execOp, resolve, hb, Sem.run_bind, Sem.run_pure, Result.andThen_ok, invoke]
        rfl
      rw [he]; exact this
    · rename_i f hb
      simp only [ob_some] at h
      obtain ⟨fv, hfv, h⟩ := h
      obtain ⟨g, c0, c', rfl, hf', hc, hor⟩ := callFunc_ok (P := P) hE (opnd_ok hT hfv) hA hR hf h
      have : (execOp a.eval { dst := dst, op := .call c, type := ty, pos := pos, after := after, guard := guard }).run P w = (callFunc g ⟨c.args.toList.map a.eval ++ c'⟩).run P w := by
        simp [execOp, resolve, hb, hf', Deferred.ofValue, invoke, hlist]
      rw [this]; exact hor
    · simp at h
  case defer c =>
    simp only [deferC] at h
    split at h
    · rename_i f hb
      simp only [ob_some, AV.func?_some] at h
      obtain ⟨args, hargs, fv, hfv, ⟨g, c0⟩, rfl, h⟩ := h
      injection h with h; subst h
      have hA := opnds_ok hT _ _ hargs
      have hF := opnd_ok hT hfv
      have hlist : c.args.map a.eval = ⟨c.args.toList.map a.eval⟩ := by apply Array.ext'; simp
      generalize hfe : a.eval f = f' at hF
      cases hF with
      | func _ _ c' hc =>
        refine ⟨{ target := .fn (.func g) ⟨c'⟩, args := ⟨c.args.toList.map a.eval⟩ }, ?_, g, c0, c', _, rfl, hc, hA, rfl⟩
        simp [execOp, resolve, hb, hfe, Deferred.ofValue, hlist]
    · simp at h
  case panic x =>
    simp only [panicC, ob_some, AV.iface?_some] at h
    obtain ⟨xv, hx, p, rfl, h⟩ := h
    injection h with h; subst h
    have hX := opnd_ok hT hx
    generalize hfe : a.eval x = x' at hX
    cases hX with
    | iface t b v' hv => exact ⟨.iface p.1 v', by simp [execOp, hfe, Instr.panic], .iface _ _ _ hv⟩
end
end
end Go.Ev
