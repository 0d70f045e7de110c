/- Lengths, fields, indexes, conversions, assertions, maps that are asked. -/
import Derived.Test.YtmplfbdnidlpoaaGreatDoorEvOps4
namespace Go.Ev
noncomputable section

section
variable {ρ : Nat → Value} {γ : G} {P : Program} {E : Env} {w : World} {own : Nat → Prop} {hp : Heap}

theorem HR.map (hR : HR ρ γ own hp w) {b : Nat} {es : List (AV × AV × Nat)} {clock : Nat} (h : hp.get b = some (.map es clock)) {g : Blk} (hg : γ b = some g) :
    ∃ es', w.heap[g.blk]? = some (.map es' clock) ∧ ER ρ γ es es'.toList ∧ own g.blk := by
  obtain ⟨g', o', hg', ho, hw, hor⟩ := hR.obj b _ h
  rw [hg] at hg'; injection hg' with hg'; subst hg'
  cases o' <;> simp only [OR] at hor
  obtain ⟨rfl, h2⟩ := hor
  exact ⟨_, hw, h2, ho⟩

theorem run_getObj_map {r : Nat} {es : Array MapEntry} {clock : Nat} (h : w.heap[r]? = some (.map es clock)) : (getObj r).run P w = .ok (.map es clock) w := by
  simp [getObj, Sem.run, h]

theorem len_ok (hE : EnvOk P E) (hR : HR ρ γ own hp w) {t n : Nat} {x : AV} {x' : Value} (hx : VR ρ γ x x') (h : lenA E hp t x = some n) (ats : Array TypeId) (ty : TypeId) (xs : Array Value)
    (h0 : ats[0]? = some t) (h1 : xs[0]? = some x') : (Builtin.len_ ats ty xs).run P w = .ok (.int .i64 n) w := by
  simp only [lenA, ob_some] at h
  obtain ⟨ti, hti, h⟩ := h
  have ht := hE.tys t ti hti
  obtain ⟨td, hd1, hd2⟩ := ht.run_underlying
  simp only [Builtin.len_, h0, h1]
  split at h
  case h_9 => simp at h
  all_goals (rename_i hdd; rw [hdd] at hd1)
  all_goals (cases td <;> simp only [DOk] at hd1)
  case h_7 => 
    obtain ⟨rfl, rfl⟩ := hd1
    injection h with h; subst h
    simp [hd2, goInt]
  case h_8 =>
    subst hd1
    simp only [ob_some, TyI.array?_some] at h
    obtain ⟨ai, hai, ⟨m, e⟩, hae, h⟩ := h
    injection h with h; subst h
    have hta := hE.tys _ _ hai
    obtain ⟨ad, had1, had2⟩ := hta.run_underlying
    simp only at hae
    rw [hae] at had1
    cases ad <;> simp only [DOk] at had1
    obtain ⟨rfl, rfl⟩ := had1
    simp [hd2, had2, goInt]
  case h_6 =>
    simp only [ob_some, AObj.map?_some] at h
    obtain ⟨o, ho, ⟨es, clock⟩, rfl, h⟩ := h
    injection h with h; subst h
    cases hx with
    | map b g hg =>
      obtain ⟨es', hw, her, _⟩ := hR.map ho hg
      simp [hd2, run_getObj_map hw, goInt, her.1]
  all_goals (injection h with h; subst h; cases hx; simp [hd2, goInt, toBA_size])

theorem nat_int {k : IntKind} {n : Nat} {v : Value} (h : VR ρ γ (.int k (.ofNat n)) v) : v = .int k n := by cases h; rfl

theorem indexAddr_ok (hE : EnvOk P E) {t : Nat} {x i v : AV} {x' i' : Value} (hx : VR ρ γ x x') (hi : VR ρ γ i i') (h : opIndexAddr E t x i = some v) :
    ∃ v', (Instr.indexAt t x' i').run P w = .ok v' w ∧ VR ρ γ v v' := by
  simp only [opIndexAddr, ob_some, AV.nat?_some] at h
  obtain ⟨n, ⟨k, rfl⟩, ti, hti, h⟩ := h
  have hi := nat_int hi; subst hi
  have ht := hE.tys t ti hti
  obtain ⟨td, hd1, hd2⟩ := ht.run_underlying
  split at h
  case h_4 => simp at h
  all_goals (rename_i hdd; rw [hdd] at hd1)
  all_goals (cases td <;> simp only [DOk] at hd1)
  · obtain ⟨rfl, rfl⟩ := hd1
    simp only [og_some, ob_some, sizeA] at h
    obtain ⟨hlt, sz, ⟨ei, hei, hs⟩, he⟩ := h
    injection hs with hs; subst hs
    injection he with he; subst he
    have hlt := ble_iff.1 hlt
    cases hx with
    | ptr b off g hg =>
      refine ⟨_, ?_, .ptr _ _ g hg⟩
      have : (0 : Int) ≤ (n : Int) ∧ (n : Int) < (_ : Nat) := ⟨by omega, by exact Int.ofNat_lt.2 hlt⟩
      simp only [Instr.indexAt, asIntOf, Sem.run_bind, Sem.run_pure, Result.andThen_ok, hd2, Instr.sureAddr]
      simp only [if_pos this, Sem.run_bind, (hE.tys _ _ hei).run_sizeOf, Result.andThen_ok, Sem.run_pure, add_none]
      simp [Nat.add_assoc]
  · subst hd1
    simp only [og_some, ob_some, sizeA] at h
    obtain ⟨hlt, sz, ⟨ei, hei, hs⟩, he⟩ := h
    injection hs with hs; subst hs
    injection he with he; subst he
    have hlt := ble_iff.1 hlt
    cases hx with
    | slice b off len cap o g hg hlc ho =>
      have ho := ho.resolve_right (by simp only [Nat.add_eq] at hlt; omega)
      subst ho
      refine ⟨_, ?_, .ptr _ _ g hg⟩
      have : (0 : Int) ≤ (n : Int) ∧ (n : Int) < (_ : Nat) := ⟨by omega, by exact Int.ofNat_lt.2 hlt⟩
      simp only [Instr.indexAt, asIntOf, Sem.run_bind, Sem.run_pure, Result.andThen_ok, hd2]
      simp only [if_pos this, Sem.run_bind, (hE.tys _ _ hei).run_sizeOf, Result.andThen_ok, Sem.run_pure, add_none]
      simp [Nat.add_assoc]
  · subst hd1
    simp only [og_some, ob_some, sizeA] at h
    obtain ⟨hlt, sz, ⟨ei, hei, hs⟩, hse, he⟩ := h
    injection hs with hs; subst hs
    injection he with he; subst he
    have hlt := ble_iff.1 hlt
    cases hx with
    | oslice b off len esz c o g hg hlc hN ho =>
      have ho := ho.resolve_right (by simp only [Nat.add_eq] at hlt; omega)
      subst ho
      refine ⟨_, ?_, .ptr _ _ g hg⟩
      have : (0 : Int) ≤ (n : Int) ∧ (n : Int) < (_ : Nat) := ⟨by omega, by exact Int.ofNat_lt.2 hlt⟩
      simp only [Instr.indexAt, asIntOf, Sem.run_bind, Sem.run_pure, Result.andThen_ok, hd2]
      simp only [if_pos this, Sem.run_bind, (hE.tys _ _ hei).run_sizeOf, Result.andThen_ok, Sem.run_pure, add_none]
      simp [Nat.add_assoc]

theorem partA_ok (hE : EnvOk P E) {t : Nat} {ti : TyI} (hti : E.tys.get t = some ti) {as : List AV} {vs : List Value} (hv : VRs ρ γ as vs) {off : Nat} {p : AV}
    (h : partA ti as off = some p) : ∃ v, (part t ⟨vs⟩ off).run P w = .ok v w ∧ VR ρ γ p v := by
  have ht := hE.tys t ti hti
  unfold partA at h
  cases ha : ti.agg with
  | true =>
    rw [ha] at h; simp at h; subst h
    refine ⟨_, ?_, .agg _ _ ((hv.drop off).take ti.size)⟩
    simp only [part, Sem.run_bind, ht.run_isAgg, Result.andThen_ok, ha, if_true, ht.run_sizeOf, Sem.run_pure]
    congr 2
    apply Array.ext'
    simp only [Array.toList_extract]
    rw [List.extract_eq_take_drop]
    simp
  | false =>
    rw [ha] at h; simp only [bc_false, nth_eq] at h
    obtain ⟨u, hu, hr⟩ := hv.get _ _ h
    exact ⟨u, by simp [part, ht.run_isAgg, ha, hu], hr⟩

theorem index_ok (hE : EnvOk P E) {t : Nat} {x i v : AV} {x' i' : Value} (hx : VR ρ γ x x') (hi : VR ρ γ i i') (h : opIndex E t x i = some v) :
    ∃ v', (Instr.index t x' i').run P w = .ok v' w ∧ VR ρ γ v v' := by
  simp only [opIndex, ob_some, AV.nat?_some] at h
  obtain ⟨n, ⟨k, rfl⟩, ti, hti, h⟩ := h
  have hi := nat_int hi; subst hi
  have ht := hE.tys t ti hti
  obtain ⟨td, hd1, hd2⟩ := ht.run_underlying
  split at h
  case h_3 => simp at h
  all_goals (rename_i hdd; rw [hdd] at hd1)
  all_goals (cases td <;> simp only [DOk] at hd1)
  · simp only [ob_some, nth_eq] at h
    obtain ⟨b, hb, he⟩ := h
    injection he with he; subst he
    rename_i s
    cases hx with
    | str _ hs =>
      have hlt : n < s.length := (List.getElem?_eq_some_iff.1 hb).1
      have hbb : b < 256 := hs b (List.mem_of_getElem? hb)
      have hget : (toBA s)[n]? = some (UInt8.ofNat b) := by
        rw [Go.ByteArray.getElem?_lt' _ _ (by rw [toBA_size]; exact hlt)]
        congr 1
        rw [ByteArray.getElem_eq_getElem_data]
        simp only [toBA, List.getElem_toArray, List.getElem_map]
        congr 1
        exact (List.getElem?_eq_some_iff.1 hb).2
      refine ⟨_, ?_, .int _ _⟩
      simp only [Instr.index, asIntOf, Sem.run_bind, Sem.run_pure, Result.andThen_ok, hd2]
      have : (0 : Int) ≤ (n : Int) := by omega
      simp only [if_pos this, Int.toNat_natCast, hget, Sem.run_pure]
      simp [UInt8.toNat_ofNat']
      omega
  · obtain ⟨rfl, rfl⟩ := hd1
    simp only [og_some, ob_some] at h
    obtain ⟨hlt, ei, hei, he⟩ := h
    have hlt := ble_iff.1 hlt
    cases hx with
    | agg cs vs hvs =>
      obtain ⟨v', h1, h2⟩ := partA_ok (w := w) hE hei hvs he
      refine ⟨v', ?_, h2⟩
      have : (0 : Int) ≤ (n : Int) ∧ (n : Int) < (_ : Nat) := ⟨by omega, by exact Int.ofNat_lt.2 hlt⟩
      simp only [Instr.index, asIntOf, Sem.run_bind, Sem.run_pure, Result.andThen_ok, hd2]
      simp only [if_pos this, Sem.run_bind, (hE.tys _ _ hei).run_sizeOf, Result.andThen_ok, Int.toNat_natCast]
      exact h1

theorem struct_fields (hE : EnvOk P E) {t f : Nat} {fd : Nat × Nat × Bool} (h : fieldA E t f = some fd) :
    ∃ fs : Array Field, ∃ x, (∀ w, (underlying t).run P w = .ok (.struct fs) w) ∧ fs[f]? = some x ∧ x.offset = fd.1 ∧ x.type = fd.2.1 := by
  simp only [fieldA, ob_some, TyI.struct?_some, nth_eq] at h
  obtain ⟨ti, hti, l, hl, hf⟩ := h
  have ht := hE.tys t ti hti
  obtain ⟨td, hd1, hd2⟩ := ht.run_underlying
  rw [hl] at hd1
  cases td <;> simp only [DOk] at hd1
  rename_i fs
  rw [hd1, List.getElem?_map, Option.map_eq_some_iff] at hf
  obtain ⟨x, hx, rfl⟩ := hf
  exact ⟨fs, x, hd2, by simpa using hx, rfl, rfl⟩

theorem field_ok (hE : EnvOk P E) {t f : Nat} {x v : AV} {x' : Value} (hx : VR ρ γ x x') (h : opField E t f x = some v) :
    ∃ v', (Instr.field t x' f).run P w = .ok v' w ∧ VR ρ γ v v' := by
  simp only [opField, ob_some, AV.agg?_some] at h
  obtain ⟨cs, rfl, fd, hfd, fi, hfi, h⟩ := h
  obtain ⟨fs, y, h1, h2, h3, h4⟩ := struct_fields (P := P) hE hfd
  cases hx with
  | agg _ vs hvs =>
    obtain ⟨v', g1, g2⟩ := partA_ok (w := w) hE hfi hvs h
    refine ⟨v', ?_, g2⟩
    simp [Instr.field, h1, h2, asAgg, h3, h4, g1]

theorem fieldAddr_ok (hE : EnvOk P E) {t f : Nat} {x v : AV} {x' : Value} (hx : VR ρ γ x x') (h : opFieldAddr E t f x = some v) :
    ∃ v', (Instr.fieldAt t x' f).run P w = .ok v' w ∧ VR ρ γ v v' := by
  simp only [opFieldAddr, ob_some, AV.ptr?_some, og_some, sizeA] at h
  obtain ⟨⟨b, off⟩, rfl, fd, hfd, sz, ⟨fi, hfi, hs⟩, hsz, he⟩ := h
  injection hs with hs; subst hs
  injection he with he; subst he
  obtain ⟨fs, y, h1, h2, h3, h4⟩ := struct_fields (P := P) hE hfd
  have hz : fi.size ≠ 0 := by intro h0; simp [h0] at hsz
  cases hx with
  | ptr _ _ g hg =>
    refine ⟨_, ?_, .ptr _ _ g hg⟩
    simp [Instr.fieldAt, h1, h2, Instr.sureAddr, fieldPlace, h4, (hE.tys _ _ hfi).run_sizeOf, hz, add_none, h3, Nat.add_assoc]

theorem iface_ok (hE : EnvOk P E) {t : Nat} {x v : AV} {x' : Value} (hx : VR ρ γ x x') (h : opIface E t x = some v) :
    ∃ v', (Instr.makeInterface t x').run P w = .ok v' w ∧ VR ρ γ v v' := by
  simp only [opIface, ob_some, og_some] at h
  obtain ⟨ti, hti, hn, he⟩ := h
  injection he with he; subst he
  obtain ⟨td, hd1, hd2⟩ := (hE.tys t ti hti).run_underlying
  refine ⟨_, ?_, .iface _ _ _ hx⟩
  simp only [Instr.makeInterface, Sem.run_bind, hd2, Result.andThen_ok]
  cases td <;> cases hdd : ti.d <;> simp [DOk, hdd, TyI.isIface] at hd1 hn ⊢

theorem zero_ok (hE : EnvOk P E) {t : Nat} {z : AV} (h : zeroA E t = some z) : ∃ v, (∀ w, (zeroValue t).run P w = .ok v w) ∧ VR ρ γ z v := by
  simp only [zeroA, ob_some] at h
  obtain ⟨ti, hti, cs, hcs, h⟩ := h
  have ht := hE.tys t ti hti
  obtain ⟨v, h1, h2, h3, h4⟩ := ht.run_zero (ρ := ρ) (γ := γ) hcs
  refine ⟨v, h1, ?_⟩
  rcases asTy_ok h h2 with ⟨ha, hr⟩ | ⟨ha, u, hu, hr⟩
  · obtain ⟨c, rfl⟩ := h3 ha
    exact hr
  · have := h4 ha
    rw [this] at hu
    simp at hu; subst hu
    exact hr

theorem withOk_ok {ok is : Bool} {v : AV} {v' : Value} (h : VR ρ γ v v') : VR ρ γ (withOk ok v is) (if ok = true then .tuple #[v', .bool is] else v') := by
  cases ok with
  | true => exact .tup _ _ (.cons _ _ _ _ h (.cons _ _ _ _ (.bool is) .nil))
  | false => exact h

theorem assert_ok (hE : EnvOk P E) {t xt : Nat} {ok : Bool} {x v : AV} {x' : Value} (hx : VR ρ γ x x') (h : opAssert E t ok x = some v) :
    ∃ v', (Instr.typeAssert x' xt t ok).run P w = .ok v' w ∧ VR ρ γ v v' := by
  simp only [opAssert, ob_some, og_some] at h
  obtain ⟨ti, hti, hn, h⟩ := h
  obtain ⟨td, hd1, hd2⟩ := (hE.tys t ti hti).run_underlying
  have hni : ∀ ms, td ≠ .interface ms := by
    intro ms hh; subst hh
    cases hdd : ti.d <;> simp [DOk, hdd, TyI.isIface] at hd1 hn
  split at h
  · rename_i u a
    cases hx with
    | iface _ _ a' ha =>
      rw [bc_eq] at h
      split at h
      · rename_i hut
        have hut := beq_iff.1 hut
        subst hut
        injection h with h; subst h
        refine ⟨_, ?_, withOk_ok ha⟩
        simp only [Instr.typeAssert, Sem.run_bind, hd2, Result.andThen_ok]
        cases td <;> first | exact absurd rfl (hni _) | (cases ok <;> simp)
      · rename_i hut
        simp only [og_some, ob_some] at h
        obtain ⟨rfl, z, hz, he⟩ := h
        injection he with he; subst he
        obtain ⟨z', hz1, hz2⟩ := zero_ok (ρ := ρ) (γ := γ) hE hz
        have hut : ¬ u = t := fun hh => hut (beq_iff.2 hh)
        refine ⟨_, ?_, .tup _ _ (.cons _ _ _ _ hz2 (.cons _ _ _ _ (.bool false) .nil))⟩
        simp only [Instr.typeAssert, Sem.run_bind, hd2, Result.andThen_ok]
        cases td <;> first | exact absurd rfl (hni _) | simp [hut, hz1]
  · cases hx
    simp only [og_some, ob_some] at h
    obtain ⟨rfl, z, hz, he⟩ := h
    injection he with he; subst he
    obtain ⟨z', hz1, hz2⟩ := zero_ok (ρ := ρ) (γ := γ) hE hz
    refine ⟨_, ?_, .tup _ _ (.cons _ _ _ _ hz2 (.cons _ _ _ _ (.bool false) .nil))⟩
    simp only [Instr.typeAssert, Sem.run_bind, hd2, Result.andThen_ok]
    cases td <;> first | exact absurd rfl (hni _) | simp [hz1]
  · simp at h

/-! maps that are asked -/

theorem keyEq_ok {kt : Nat} {k k' : AV} {v v' : Value} (hk : keyTy E kt k = true) (h1 : VR ρ γ k v) (h2 : VR ρ γ k' v') {c : Bool} (h : keyEq k k' = some c) :
    ∃ ti, E.tys.get kt = some ti ∧ ∀ td, DOk td ti.d → Instr.sameNow td v v' = some c := by
  unfold keyTy at hk
  split at hk
  · rename_i hti
    refine ⟨_, hti, fun td htd => ?_⟩
    cases td <;> simp only [DOk] at htd
    subst htd
    cases h1
    cases h2 <;> simp only [keyEq] at h <;> try (simp at h; done)
    simp only [og_some, eqKind_eq, eqInt_eq, decide_eq_true_eq] at h
    obtain ⟨rfl, h⟩ := h
    injection h with h; subst h
    simp only [Instr.sameNow, if_true]
    rfl
  · rename_i hti
    refine ⟨_, hti, fun td htd => ?_⟩
    cases td <;> simp only [DOk] at htd
    cases h1
    cases h2 <;> simp only [keyEq] at h <;> try (simp at h; done)
    injection h with h; subst h
    simp only [Instr.sameNow]
    rw [beq_toListBytes, toBA_toList, toBA_toList, eqBytes_eq _ _ (by assumption) (by assumption)]
  · simp at hk

theorem findA_ok (hE : EnvOk P E) {kt : Nat} {k : AV} {v : Value} (hk : keyTy E kt k = true) (h1 : VR ρ γ k v) : ∀ (es : List (AV × AV × Nat)) (i : Nat) (es' : List MapEntry) (r : Option (Nat × AV)),
    findA k es i = some r → ER ρ γ es es' → ∀ td, (∃ ti, E.tys.get kt = some ti ∧ DOk td ti.d) →
    ∃ r', Instr.findNow td v es' i = some r' ∧ (match r, r' with
      | none, none => True
      | some p, some p' => p'.1 = p.1 ∧ VR ρ γ p.2 p'.2 ∧ i ≤ p.1 ∧ p.1 < i + es.length
      | _, _ => False)
  | [], i, es', r, h, he, td, _ => by
    simp [findA] at h; subst h
    have : es' = [] := by have := he.1; simpa using this.symm
    subst this
    exact ⟨none, rfl, trivial⟩
  | (k0, v0, b0) :: es, i, es', r, h, he, td, htd => by
    simp only [findA, ob_some] at h
    obtain ⟨c, hc, h⟩ := h
    cases es' with
    | nil => have := he.1; simp at this
    | cons e es' =>
      obtain ⟨e', he0, hk0, hv0, _⟩ := he.2 0 k0 v0 b0 rfl
      simp at he0; subst he0
      obtain ⟨ti, hti, hsame⟩ := keyEq_ok hk h1 hk0 hc
      obtain ⟨ti', hti', hdok⟩ := htd
      rw [hti] at hti'; injection hti' with hti'; subst hti'
      have hs := hsame td hdok
      cases c with
      | true =>
        simp only [bc_true] at h; injection h with h; subst h
        refine ⟨some (i, e.val), by simp [Instr.findNow, hs], rfl, hv0, Nat.le_refl _, by simp⟩
      | false =>
        simp only [bc_false] at h
        have he' : ER ρ γ es es' := ⟨by have := he.1; simpa using this, fun j a b c hj => by
          have := he.2 (j + 1) a b c (by simpa using hj); simpa using this⟩
        obtain ⟨r', hr', hm⟩ := findA_ok hE hk h1 es (i + 1) es' r h he' td ⟨ti, hti, hdok⟩
        refine ⟨r', by simp [Instr.findNow, hs, hr'], ?_⟩
        cases r <;> cases r' <;> simp at hm ⊢
        exact ⟨hm.1, hm.2.1, by omega, by omega⟩

theorem checkKey_ok (hE : EnvOk P E) {kt : Nat} {k : AV} {v : Value} (hk : keyTy E kt k = true) (h1 : VR ρ γ k v) (b : Bool) :
    (Instr.checkKey b 10000 kt v).run P w = .ok () w := by
  have : (10000 : Nat) = 9999 + 1 := rfl
  rw [this, Instr.checkKey]
  unfold keyTy at hk
  split at hk
  · rename_i hti
    obtain ⟨td, hd1, hd2⟩ := (hE.tys _ _ hti).run_underlying
    cases h1
    simp only [Sem.run_bind, hd2, Result.andThen_ok]
    cases td <;> simp only [DOk] at hd1
    rfl
  · rename_i hti
    obtain ⟨td, hd1, hd2⟩ := (hE.tys _ _ hti).run_underlying
    cases h1
    simp only [Sem.run_bind, hd2, Result.andThen_ok]
    cases td <;> simp only [DOk] at hd1
    rfl
  · simp at hk

theorem findKey_ok (hE : EnvOk P E) {kt : Nat} {k : AV} {v : Value} (hk : keyTy E kt k = true) (h1 : VR ρ γ k v) {es : List (AV × AV × Nat)} {es' : List MapEntry} {r : Option (Nat × AV)}
    (h : findA k es 0 = some r) (he : ER ρ γ es es') : ∃ r', (Instr.findKey kt v es').run P w = .ok r' w ∧ (match r, r' with
      | none, none => True
      | some p, some p' => p'.1 = p.1 ∧ VR ρ γ p.2 p'.2 ∧ p.1 < es.length
      | _, _ => False) := by
  have hti : ∃ ti, E.tys.get kt = some ti := by
    unfold keyTy at hk
    split at hk
    · rename_i hti; exact ⟨_, hti⟩
    · rename_i hti; exact ⟨_, hti⟩
    · simp at hk
  obtain ⟨ti, hti⟩ := hti
  obtain ⟨td, hd1, hd2⟩ := (hE.tys _ _ hti).run_underlying
  obtain ⟨r', hr', hm⟩ := findA_ok hE hk h1 es 0 es' r h he td ⟨ti, hti, hd1⟩
  refine ⟨r', by simp [Instr.findKey, hd2, hr'], ?_⟩
  cases r <;> cases r' <;> simp at hm ⊢
  exact ⟨hm.1, hm.2.1, by omega⟩

theorem map_ty (hE : EnvOk P E) {t : Nat} {p : Nat × Nat} (h : ∃ ti, E.tys.get t = some ti ∧ ti.d = .map p.1 p.2) : ∀ w, (underlying t).run P w = .ok (.map p.1 p.2) w := by
  obtain ⟨ti, hti, hd⟩ := h
  obtain ⟨td, hd1, hd2⟩ := (hE.tys _ _ hti).run_underlying
  rw [hd] at hd1
  cases td <;> simp only [DOk] at hd1
  obtain ⟨rfl, rfl⟩ := hd1
  exact hd2

theorem lookup_ok (hE : EnvOk P E) (hR : HR ρ γ own hp w) {t : Nat} {ok : Bool} {m k v : AV} {m' k' : Value} (hm : VR ρ γ m m') (hk : VR ρ γ k k') (h : opLookup E hp t ok m k = some v) :
    ∃ v', (Instr.lookup t m' k' ok).run P w = .ok v' w ∧ VR ρ γ v v' := by
  simp only [opLookup, ob_some, TyI.map?_some, og_some] at h
  obtain ⟨ti, hti, ⟨kt, e⟩, hd, hkt, es, hes, r, hr, h⟩ := h
  have hu := map_ty (P := P) (p := (kt, e)) hE ⟨ti, hti, hd⟩
  simp only at hd hkt
  have fin : ∀ es' : Array MapEntry, ER ρ γ es es'.toList → ∃ v', (do
      Instr.checkKey es'.isEmpty 10000 kt k'
      let __x ← Instr.findKey kt k' es'.toList
      let (x, is) ← match __x with
        | some (_, x) => pure (x, true)
        | none => pure (← zeroValue e, false)
      pure (if ok then .tuple #[x, .bool is] else x) : Sem Value).run P w = .ok v' w ∧ VR ρ γ v v' := by
    intro es' her
    obtain ⟨r', hf, hmm⟩ := findKey_ok (w := w) hE hkt hk hr her
    simp only [Sem.run_bind, Result.andThen_ok, checkKey_ok hE hkt hk, hf]
    cases r with
    | none =>
      cases r' with
      | some _ => exact hmm.elim
      | none =>
        simp only [oc_none, ob_some] at h
        obtain ⟨z, hz, he⟩ := h
        injection he with he; subst he
        obtain ⟨z', hz1, hz2⟩ := zero_ok (ρ := ρ) (γ := γ) hE hz
        refine ⟨_, ?_, withOk_ok hz2⟩
        cases ok <;> simp [hz1]
    | some p =>
      cases r' with
      | none => exact hmm.elim
      | some p' =>
        simp only [oc_some] at h
        injection h with h; subst h
        refine ⟨_, ?_, withOk_ok hmm.2.1⟩
        cases ok <;> simp
  cases m <;> simp only [mapOf] at hes <;> try (simp at hes; done)
  · injection hes with hes; subst hes
    cases hm
    obtain ⟨v', h1, h2⟩ := fin #[] ⟨rfl, by simp⟩
    refine ⟨v', ?_, h2⟩
    simp only [Instr.lookup, Sem.run_bind, hu, Result.andThen_ok, Sem.run_pure]
    simp at h1 ⊢
    exact h1
  · simp only [ob_some, AObj.map?_some] at hes
    obtain ⟨o, ho, ⟨es0, clock⟩, rfl, he⟩ := hes
    injection he with he; subst he
    cases hm with
    | map b g hg =>
      obtain ⟨es', hw, her, _⟩ := hR.map ho hg
      obtain ⟨v', h1, h2⟩ := fin es' her
      refine ⟨v', ?_, h2⟩
      simp only [Instr.lookup, Sem.run_bind, hu, Result.andThen_ok, run_getObj_map hw, Sem.run_pure]
      simp at h1 ⊢
      exact h1

theorem lastOf_eq : ∀ (l : List Nat), lastOf l = l.getLast?
  | [] => rfl
  | [x] => rfl
  | x :: y :: l => by
    have := lastOf_eq (y :: l)
    show lastOf (y :: l) = _
    rw [this]; rfl

theorem bornAt_ok {st : Nat} : ∀ (es : List (AV × AV × Nat)) (es' : List MapEntry) (p : AV × AV), bornAt st es = some p → ER ρ γ es es' →
    ∃ e, es'.find? (·.born == st) = some e ∧ VR ρ γ p.1 e.key ∧ VR ρ γ p.2 e.val
  | [], es', p, h, _ => by simp [bornAt] at h
  | (k0, v0, b0) :: es, es', p, h, he => by
    cases es' with
    | nil => have := he.1; simp at this
    | cons e es' =>
      obtain ⟨e', he0, hk0, hv0, hb0⟩ := he.2 0 k0 v0 b0 rfl
      simp at he0; subst he0
      simp only [bornAt, bc_eq] at h
      split at h
      · rename_i hb
        have hb := beq_iff.1 hb
        injection h with h; subst h
        refine ⟨e, ?_, hk0, hv0⟩
        have hb : b0 = st := hb
        simp [hb0, hb]
      · rename_i hb
        have he' : ER ρ γ es es' := ⟨by have := he.1; simpa using this, fun j a b c hj => by
          have := he.2 (j + 1) a b c (by simpa using hj); simpa using this⟩
        obtain ⟨e2, h1, h2⟩ := bornAt_ok es es' p h he'
        refine ⟨e2, ?_, h2⟩
        have : (e.born == st) = false := by
          rw [hb0]; rw [Bool.eq_false_iff]; intro hh; exact hb (beq_iff.2 (by simpa using hh))
        simp [this, h1]

theorem entry_ok (hR : HR ρ γ own hp w) {it v : AV} {it' : Value} (hi : VR ρ γ it it') (h : opEntry hp it = some v) :
    ∃ v', (Instr.entry it').run P w = .ok v' w ∧ VR ρ γ v v' := by
  simp only [opEntry, ob_some, AV.ptr?_some, og_some] at h
  obtain ⟨⟨r, off⟩, rfl, h0, o, ho, ⟨m, seen, stepped⟩, hit, st, hst, o', ho', ⟨es, clock⟩, hm, hcl, p, hp0, he⟩ := h
  injection he with he; subst he
  have h0 := beq_iff.1 h0
  have hcl := beq_iff.1 hcl
  simp only at h0 ho hcl
  subst h0; subst hcl
  rw [AObj.map?_some] at hm; subst hm
  cases o <;> simp [iter?] at hit
  obtain ⟨rfl, rfl, rfl⟩ := hit
  cases hi with
  | ptr _ _ g hg =>
    obtain ⟨g', o2, hg', _, hw, hor⟩ := hR.obj _ _ ho
    rw [hg] at hg'; injection hg' with hg'; subst hg'
    cases o2 <;> simp only [OR] at hor
    rename_i seen' _
    obtain ⟨⟨gm, hgm, rfl⟩, rfl, hseen, rfl, hδ⟩ := hor
    obtain ⟨es', hw', her, _⟩ := hR.map ho' hgm
    obtain ⟨e, he1, he2, he3⟩ := bornAt_ok es es'.toList p hp0 her
    refine ⟨_, ?_, .tup _ _ (.cons _ _ _ _ he2 (.cons _ _ _ _ he3 .nil))⟩
    have hback : seen'.back? = some st := by
      rw [← Array.getLast?_toList, hseen, ← lastOf_eq]; exact hst
    simp [Instr.entry, hδ, getObj, Sem.run, hw, hw', hback, ← Array.find?_toList, he1]
end
end
end Go.Ev
