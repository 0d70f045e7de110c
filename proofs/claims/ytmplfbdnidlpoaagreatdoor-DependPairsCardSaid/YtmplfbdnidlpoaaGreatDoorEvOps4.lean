/- Slices, lengths, fields, indexes, conversions, assertions, maps that are asked. -/
import Derived.Test.YtmplfbdnidlpoaaGreatDoorEvOps3
import Derived.Laws.Strings2
import Derived.Lib.RuneCountTail
namespace Go.Ev
noncomputable section

section
variable {ρ : Nat → Value} {γ : G} {P : Program} {E : Env} {w : World} {own : Nat → Prop} {hp : Heap}

theorem bound_run {x : Option AV} {x' : Option Value} (hx : OVR ρ γ x x') {d y n : Nat} (h : bound x d y = some n) :
    (x' = none ∧ x = none ∧ n = d) ∨ (∃ v, x' = some v ∧ x.isSome = true ∧ n ≤ y ∧ ∀ y' code, n ≤ y' → (Instr.sliceBound v y' code).run P w = .ok n w) := by
  cases x with
  | none =>
    cases x' with
    | none => simp [bound] at h; exact .inl ⟨rfl, rfl, h.symm⟩
    | some _ => exact hx.elim
  | some a =>
    cases x' with
    | none => exact hx.elim
    | some v =>
      simp only [bound, ob_some, og_some, AV.nat?_some] at h
      obtain ⟨m, ⟨k, rfl⟩, h1, h2⟩ := h
      injection h2 with h2; subst h2
      have h1 := ble_iff.1 h1
      cases hx
      refine .inr ⟨_, rfl, rfl, h1, fun y' code hy => ?_⟩
      have : (0 : Int) ≤ Int.ofNat m ∧ Int.ofNat m ≤ (y' : Int) := ⟨by simp, by simp; omega⟩
      simp only [Instr.sliceBound, asIntOf, Sem.run_bind, Sem.run_pure, Result.andThen_ok]
      rw [if_pos this]
      simp

theorem sliceBounds_run {b : Bool} {lo hi mx : Option AV} {lo' hi' mx' : Option Value} (hlo : OVR ρ γ lo lo') (hhi : OVR ρ γ hi hi') (hmx : OVR ρ γ mx mx')
    {len cap m h l ymx : Nat} (e1 : bound mx cap ymx = some m) (hy : ymx ≤ cap) (e0 : (mx.isNone || hi.isSome) = true) (e2 : bound hi len m = some h) (e3 : bound lo 0 h = some l) :
    (Instr.sliceBounds b len cap lo' hi' mx').run P w = .ok (l, h, m) w ∧ m ≤ cap := by
  rcases bound_run (P := P) (w := w) hmx e1 with ⟨rfl, rfl, rfl⟩ | ⟨mv, rfl, hms, hm, hmr⟩
  · rcases bound_run (P := P) (w := w) hhi e2 with ⟨rfl, rfl, rfl⟩ | ⟨hv, rfl, hhs, hh, hhr⟩
    · rcases bound_run (P := P) (w := w) hlo e3 with ⟨rfl, rfl, rfl⟩ | ⟨lv, rfl, hls, hl, hlr⟩
      · simp [Instr.sliceBounds]
      · simp [Instr.sliceBounds, hlr _ _ hl]
    · rcases bound_run (P := P) (w := w) hlo e3 with ⟨rfl, rfl, rfl⟩ | ⟨lv, rfl, hls, hl, hlr⟩
      · simp [Instr.sliceBounds, hhr _ _ hh]
      · simp [Instr.sliceBounds, hhr _ _ hh, hlr _ _ hl]
  · rcases bound_run (P := P) (w := w) hhi e2 with ⟨rfl, rfl, rfl⟩ | ⟨hv, rfl, hhs, hh, hhr⟩
    · cases mx <;> simp at e0 hms
    · rcases bound_run (P := P) (w := w) hlo e3 with ⟨rfl, rfl, rfl⟩ | ⟨lv, rfl, hls, hl, hlr⟩
      · simp [Instr.sliceBounds, hmr _ _ (Nat.le_trans hm hy), hhr _ _ hh]; omega
      · simp [Instr.sliceBounds, hmr _ _ (Nat.le_trans hm hy), hhr _ _ hh, hlr _ _ hl]; omega

/-- no third bound; the capacity is at least what is known -/
theorem sliceBounds_run0 {b : Bool} {lo hi : Option AV} {lo' hi' : Option Value} (hlo : OVR ρ γ lo lo') (hhi : OVR ρ γ hi hi')
    {len cap y h l : Nat} (hy : y ≤ cap) (e2 : bound hi len y = some h) (e3 : bound lo 0 h = some l) :
    (Instr.sliceBounds b len cap lo' hi' none).run P w = .ok (l, h, cap) w := by
  rcases bound_run (P := P) (w := w) hhi e2 with ⟨rfl, rfl, rfl⟩ | ⟨hv, rfl, hhs, hh, hhr⟩
  · rcases bound_run (P := P) (w := w) hlo e3 with ⟨rfl, rfl, rfl⟩ | ⟨lv, rfl, hls, hl, hlr⟩
    · simp [Instr.sliceBounds]
    · simp [Instr.sliceBounds, hlr _ _ hl]
  · rcases bound_run (P := P) (w := w) hlo e3 with ⟨rfl, rfl, rfl⟩ | ⟨lv, rfl, hls, hl, hlr⟩
    · simp [Instr.sliceBounds, hhr _ _ (Nat.le_trans hh hy)]
    · simp [Instr.sliceBounds, hhr _ _ (Nat.le_trans hh hy), hlr _ _ hl]

theorem bound_le {x : Option AV} {d y n : Nat} (h : bound x d y = some n) (hd : d ≤ y) : n ≤ y := by
  cases x with
  | none => simp [bound] at h; omega
  | some a =>
    simp only [bound, ob_some, og_some] at h
    obtain ⟨m, _, h1, h2⟩ := h
    injection h2 with h2; subst h2
    exact ble_iff.1 h1

theorem newOff_eq (m l off sz : Nat) : newOff m l off sz = if m = l then off else off + l * sz := by
  unfold newOff; rw [bc_eq]; simp only [beq_iff]; rfl

theorem toBA_extract (s : List Nat) (l h : Nat) : (toBA s).extract l h = toBA ((s.take h).drop l) := by
  rw [toBA, Go.ByteArray.extract_mk, toBA]
  congr 2
  rw [List.drop_take, ← List.map_drop, ← List.map_take]

theorem sliceArr_ok (hE : EnvOk P E) {n e b off : Nat} {lo hi mx : Option AV} {lo' hi' mx' : Option Value} (hlo : OVR ρ γ lo lo') (hhi : OVR ρ γ hi hi') (hmx : OVR ρ γ mx mx')
    {v : AV} (h : sliceArr E n e b off lo hi mx = some v) {g : Blk} (hg : γ b = some g) :
    ∃ l hh m sz, (sizeOf e).run P w = .ok sz w ∧ (Instr.sliceBounds false n n lo' hi' mx').run P w = .ok (l, hh, m) w ∧
      VR ρ γ v (.slice (some (if m = l then ⟨g.blk, g.δ + off, none⟩ else (⟨g.blk, g.δ + off, none⟩ : Addr).add (l * sz))) (hh - l) (m - l)) := by
  simp only [sliceArr, ob_some, og_some, sizeA] at h
  obtain ⟨sz, ⟨ei, hei, hs⟩, m, hm, h0, hh, hhh, l, hl, he⟩ := h
  injection hs with hs; subst hs
  injection he with he; subst he
  obtain ⟨hr, _⟩ := sliceBounds_run (P := P) (w := w) (b := false) hlo hhi hmx hm (Nat.le_refl _) h0 hhh hl
  refine ⟨l, hh, m, ei.size, (hE.tys _ _ hei).run_sizeOf w, hr, ?_⟩
  have hle : hh ≤ m ∨ (hi = none ∧ hh = n ∧ mx = none ∧ m = n) := by
    cases hi with
    | none =>
      cases mx with
      | none => simp [bound] at hhh hm; exact .inr ⟨rfl, hhh.symm, rfl, hm.symm⟩
      | some _ => simp at h0
    | some a =>
      simp only [bound, ob_some, og_some] at hhh
      obtain ⟨_, _, h1, h2⟩ := hhh
      injection h2 with h2; subst h2
      exact .inl (ble_iff.1 h1)
  have hle : hh ≤ m := by rcases hle with h | ⟨_, h1, _, h2⟩ <;> omega
  rw [newOff_eq]
  have : (if m = l then (⟨g.blk, g.δ + off, none⟩ : Addr) else (⟨g.blk, g.δ + off, none⟩ : Addr).add (l * ei.size)) = ⟨g.blk, g.δ + (if m = l then off else off + l * ei.size), none⟩ := by
    split
    · rfl
    · rw [add_none]; congr 1; omega
  rw [this]
  exact .slice _ _ _ _ _ g hg (by simp only [Nat.sub_eq]; omega) (.inl rfl)

theorem slice_ok (hE : EnvOk P E) (hR : HR ρ γ own hp w) {t : Nat} {x v : AV} {x' : Value} {lo hi mx : Option AV} {lo' hi' mx' : Option Value} (hx : VR ρ γ x x')
    (hlo : OVR ρ γ lo lo') (hhi : OVR ρ γ hi hi') (hmx : OVR ρ γ mx mx') (h : sliceA E hp t x lo hi mx = some v) :
    ∃ v', (Instr.sliceAt t x' lo' hi' mx').run P w = .ok v' w ∧ VR ρ γ v v' := by
  simp only [sliceA, ob_some] at h
  obtain ⟨ti, hti, h⟩ := h
  have ht := hE.tys t ti hti
  obtain ⟨td, hd1, hd2⟩ := ht.run_underlying
  split at h
  case h_7 => simp at h
  all_goals (rename_i hdd; rw [hdd] at hd1)
  all_goals (cases td <;> simp only [DOk] at hd1)
  · -- a string
    simp only [og_some, ob_some] at h
    obtain ⟨h0, hh, hhh, l, hl, he⟩ := h
    injection he with he; subst he
    cases hx
    rename_i s _ hs
    have hm0 : mx = none := by cases mx <;> simp at h0 ⊢
    subst hm0
    have hm1 : mx' = none := by cases mx' <;> simp [OVR] at hmx ⊢
    subst hm1
    have hr := sliceBounds_run0 (P := P) (w := w) (b := false) hlo hhi (Nat.le_refl _) hhh hl
    refine ⟨_, ?_, .str _ (fun y hy => hs y (List.mem_of_mem_take (List.mem_of_mem_drop hy)))⟩
    simp only [Instr.sliceAt, Sem.run_bind, hd2, Result.andThen_ok, Instr.slice, Option.isSome_none, Bool.false_eq_true, if_false, toBA_size, hr, Sem.run_pure, toBA_extract]
  · -- a nil slice
    subst hd1
    simp only [og_some, ob_some, sizeA] at h
    obtain ⟨sz, ⟨ei, hei, _⟩, h0, m, hm, hh, hhh, l, hl, he⟩ := h
    injection he with he; subst he
    cases hx
    have hm' : m = 0 := Nat.le_zero.1 (bound_le hm (Nat.le_refl _))
    subst hm'
    have hh' : hh = 0 := Nat.le_zero.1 (bound_le hhh (Nat.le_refl _))
    subst hh'
    have hl' : l = 0 := Nat.le_zero.1 (bound_le hl (Nat.le_refl _))
    subst hl'
    obtain ⟨hr, _⟩ := sliceBounds_run (P := P) (w := w) (b := true) hlo hhi hmx hm (Nat.le_refl _) h0 hhh hl
    refine ⟨_, ?_, .nilSlice⟩
    simp [Instr.sliceAt, hd2, Instr.slice, hr, (hE.tys _ _ hei).run_sizeOf]
  · -- a slice whose capacity is known
    subst hd1
    simp only [og_some, ob_some, sizeA] at h
    obtain ⟨sz, ⟨ei, hei, hs⟩, m, hm, h0, hh, hhh, l, hl, he⟩ := h
    injection hs with hs; subst hs
    injection he with he; subst he
    cases hx with
    | slice b off len cap o g hg hlc ho =>
      obtain ⟨hr, hmc⟩ := sliceBounds_run (P := P) (w := w) (b := true) hlo hhi hmx hm (Nat.le_refl _) h0 hhh hl
      have hle : hh ≤ m := by
        cases hi with
        | none =>
          cases mx with
          | none => simp [bound] at hhh hm; omega
          | some _ => simp at h0
        | some a =>
          simp only [bound, ob_some, og_some] at hhh
          obtain ⟨_, _, h1, h2⟩ := hhh
          injection h2 with h2; subst h2
          exact ble_iff.1 h1
      refine ⟨_, ?_, .slice _ _ _ _ (if m = l then o else o + l * ei.size) g hg (by simp only [Nat.sub_eq]; omega) ?_⟩
      · simp only [Instr.sliceAt, Sem.run_bind, hd2, Result.andThen_ok, Instr.slice, hr, (hE.tys _ _ hei).run_sizeOf, Sem.run_pure, Option.map_some, add_none, Nat.sub_eq]
        congr 2
        split <;> rfl
      · rw [newOff_eq]
        have hlm : l ≤ hh := bound_le hl (Nat.zero_le _)
        rcases ho with ho | ho
        · left; split <;> omega
        · right; simp only [Nat.sub_eq]; omega
  · -- a slice that append made
    subst hd1
    simp only [og_some, ob_some, sizeA] at h
    obtain ⟨sz, ⟨ei, hei, hs⟩, hsz, hez, o, ho, q, hq, h⟩ := h
    obtain ⟨t0, z0, n⟩ := q
    injection hs with hs; subst hs
    have hsz := beq_iff.1 hsz
    rw [AObj.cells?_some] at hq; subst hq
    rename_i b off len esz el _
    cases hx with
    | oslice _ _ _ _ c ao g hg hlc hN hoff =>
      subst hsz
      have hez : ei.size ≠ 0 := by intro h0; simp [h0] at hez
      obtain ⟨g', o', hg', _, hw, hor⟩ := hR.obj _ _ ho
      rw [hg] at hg'; injection hg' with hg'; subst hg'
      cases o' <;> simp only [OR] at hor
      have hkn : (n - off) / ei.size ≤ c := by
        apply Nat.div_le_of_le_mul
        have : c * ei.size = ei.size * c := Nat.mul_comm _ _
        omega
      cases mx with
      | none =>
        have hm1 : mx' = none := by cases mx' <;> simp [OVR] at hmx ⊢
        subst hm1
        simp only [oc_none, ob_some] at h; change ∃ a, bound hi len ((n - off) / ei.size) = some a ∧ _ at h
        obtain ⟨hh, hhh, l, hl, he⟩ := h
        injection he with he; subst he
        have hr := sliceBounds_run0 (P := P) (w := w) (b := true) hlo hhi hkn hhh hl
        have hlm : l ≤ hh := bound_le hl (Nat.zero_le _)
        have hhc : hh ≤ c := by
          cases hi with
          | none => simp [bound] at hhh; omega
          | some a =>
            simp only [bound, ob_some, og_some] at hhh
            obtain ⟨_, _, h1, h2⟩ := hhh
            injection h2 with h2; subst h2
            exact Nat.le_trans (ble_iff.1 h1) hkn
        refine ⟨_, ?_, .oslice _ _ _ _ (c - l) (if c = l then ao else ao + l * ei.size) g hg (by simp only [Nat.sub_eq]; omega) ?_ ?_⟩
        · simp only [Instr.sliceAt, Sem.run_bind, hd2, Result.andThen_ok, Instr.slice, hr, (hE.tys _ _ hei).run_sizeOf, Sem.run_pure, Option.map_some, add_none, Nat.sub_eq]
          congr 2
          split <;> rfl
        · simp only [Nat.add_eq, Nat.mul_eq]
          have : (c - l) * ei.size = c * ei.size - l * ei.size := Nat.sub_mul _ _ _
          have : l * ei.size ≤ c * ei.size := Nat.mul_le_mul_right _ (by omega)
          omega
        · simp only [Nat.add_eq, Nat.mul_eq]
          rcases hoff with hoff | hoff
          · by_cases hcl : c = l
            · right; omega
            · left; rw [if_neg hcl]; omega
          · right; omega
      | some ma =>
        simp only [oc_some, ob_some, og_some] at h; change ∃ a, bound (some ma) 0 ((n - off) / ei.size) = some a ∧ _ at h
        obtain ⟨m, hm, h0, hh, hhh, l, hl, he⟩ := h
        injection he with he; subst he
        have hme : bound (some ma) c ((n - off) / ei.size) = some m := by simpa [bound] using hm
        obtain ⟨hr, hmc⟩ := sliceBounds_run (P := P) (w := w) (b := true) hlo hhi hmx hme hkn (by simp [h0]) hhh hl
        have hlm : l ≤ hh := bound_le hl (Nat.zero_le _)
        have hhm : hh ≤ m := by
          cases hi with
          | none => simp at h0
          | some a =>
            simp only [bound, ob_some, og_some] at hhh
            obtain ⟨_, _, h1, h2⟩ := hhh
            injection h2 with h2; subst h2
            exact ble_iff.1 h1
        refine ⟨_, ?_, .slice _ _ _ _ (if m = l then ao else ao + l * ei.size) g hg (Nat.sub_le_sub_right hhm l) ?_⟩
        · simp only [Instr.sliceAt, Sem.run_bind, hd2, Result.andThen_ok, Instr.slice, hr, (hE.tys _ _ hei).run_sizeOf, Sem.run_pure, Option.map_some, add_none]
          congr 2
          split <;> rfl
        · rw [newOff_eq]
          rcases hoff with hoff | hoff
          · left; split <;> omega
          · right; show m - l = 0; omega
  · -- a pointer to an array
    subst hd1
    simp only [ob_some, TyI.array?_some] at h
    obtain ⟨ai, hai, ⟨n, e⟩, hae, h⟩ := h
    cases hx with
    | ptr b off g hg =>
      obtain ⟨l, hh, m, sz, h1, h2, h3⟩ := sliceArr_ok (w := w) hE hlo hhi hmx h hg
      have hta := hE.tys _ _ hai
      obtain ⟨ad, had1, had2⟩ := hta.run_underlying
      simp only at hae
      rw [hae] at had1
      cases ad <;> simp only [DOk] at had1
      obtain ⟨rfl, rfl⟩ := had1
      refine ⟨_, ?_, h3⟩
      simp [Instr.sliceAt, hd2, Instr.slice, asAddr, had2, h1, h2]
  · -- an array's address
    obtain ⟨rfl, rfl⟩ := hd1
    cases hx with
    | ptr b off g hg =>
      obtain ⟨l, hh, m, sz, h1, h2, h3⟩ := sliceArr_ok (w := w) hE hlo hhi hmx h hg
      refine ⟨_, ?_, h3⟩
      simp [Instr.sliceAt, hd2, Instr.sureAddr, h1, h2]
end
end
end Go.Ev
