/- append. -/
import Derived.Test.YtmplfbdnidlpoaaGreatDoorEvOps7
namespace Go.Ev
noncomputable section

theorem growBy_le (n : Nat) : ∀ (r c : Nat), c < n → Builtin.growBy n r c ≤ n + n / 4 + 192
  | 0, c, h => by simp only [Builtin.growBy]; omega
  | r + 1, c, h => by
    simp only [Builtin.growBy]
    rw [if_neg (by omega)]
    by_cases h2 : c + (c + 768) / 4 < n
    · exact growBy_le n r _ h2
    · have : Builtin.growBy n r (c + (c + 768) / 4) = c + (c + 768) / 4 := by
        cases r with
        | zero => rfl
        | succ r => simp only [Builtin.growBy]; rw [if_pos (by omega)]
      rw [this]; omega
theorem nextslicecap_le (n c : Nat) (h : c < n) : Builtin.nextslicecap n c ≤ 2 * n + 192 := by
  unfold Builtin.nextslicecap
  split
  · omega
  · split
    · omega
    · have := growBy_le n 4 c h; omega

section
variable {ρ : Nat → Value} {γ : G} {P : Program} {E : Env} {w : World} {own : Nat → Prop} {hp : Heap}

/-- what is appended -/
theorem appSrc_ok (hE : EnvOk P E) {ei : TyI} {e xt : Nat} (hei : E.tys.get e = some ei) {x : AV} {x' : Value} (hx : VR ρ γ x x') {n : Nat} {new : List AV} (h : appSrc E hp ei xt x = some (n, new)) :
    ∃ td, (∀ w, (underlying xt).run P w = .ok td w) ∧
    ((∃ k k', td = .int k ∧ x' = .int k' (n : Int) ∧ n ≤ 100000 ∧ ∃ zv, (∀ w, (zeroValue e).run P w = .ok zv w) ∧ zv.cells.size = ei.size ∧ VRs ρ γ new (rep n zv.cells.toList)) ∨
     ((∀ k, td ≠ .int k) ∧ seqLen x = some n ∧ firstA hp ei.size n x = some new)) := by
  simp only [appSrc, ob_some] at h
  obtain ⟨xi, hxi, h⟩ := h
  obtain ⟨td, hd1, hd2⟩ := (hE.tys _ _ hxi).run_underlying
  refine ⟨td, hd2, ?_⟩
  split at h
  · rename_i hdd
    rw [hdd] at hd1
    cases td <;> simp only [DOk] at hd1
    rename_i k
    simp only [ob_some, og_some, AV.nat?_some] at h
    obtain ⟨m, ⟨k', rfl⟩, z, hz, hm, hzl, he⟩ := h
    injection he with he; injection he with he1 he2; subst he1; subst he2
    left
    obtain ⟨zv, h1, h2, _⟩ := (hE.tys _ _ hei).run_zero (ρ := ρ) (γ := γ) hz
    have hzl := beq_iff.1 hzl
    exact ⟨k, k', rfl, nat_int hx, ble_iff.1 hm, zv, h1, by have := h2.length; rw [hzl] at this; simpa using this.symm, h2.rep m⟩
  · rename_i hni
    simp only [ob_some] at h
    obtain ⟨m, hm, cs, hcs, he⟩ := h
    injection he with he; injection he with he1 he2; subst he1; subst he2
    right
    refine ⟨fun k hk => ?_, hm, hcs⟩
    subst hk
    cases hdd : xi.d <;> simp [DOk, hdd] at hd1
    exact hni _ hdd

theorem wrapN (n : Nat) (h : n ≤ 100000) : IntKind.i64.wrap (n : Int) = n := by rw [i64_wrap]; split <;> omega

theorem grow_small (need c b : Nat) (hc : c < need) (hn : need ≤ 2000000) (hb : b ≤ 100000) : ¬ (Builtin.nextslicecap need c * b > 2 ^ 48) := by
  have h1 := nextslicecap_le need c hc
  have h2 : Builtin.nextslicecap need c * b ≤ 4000192 * 100000 := Nat.mul_le_mul (by omega) hb
  have h3 : 4000192 * 100000 ≤ 2 ^ 48 := by decide
  omega

/-- what append does, in place and out of place -/
theorem append_run (hE : EnvOk P E) {e xt st : Nat} {ei : TyI} (hei : E.tys.get e = some ei) (hst : ∀ w, (underlying st).run P w = .ok (.slice e) w) (hb : ei.bytes ≤ 100000) {z : List AV} (hz : ei.zero = some z) (hzl : z.length = ei.size) (hsz : ei.size ≠ 0)
    {x : AV} {x' : Value} (hx : VR ρ γ x x') {n : Nat} {new : List AV} (h : appSrc E hp ei xt x = some (n, new)) (ats : Array TypeId) (ty : TypeId) (xs : Array Value)
    (h0 : ats[0]? = some st) (h1 : ats[1]? = some xt) {q : Option Addr} {l c : Nat} (h2 : xs[0]? = some (.slice q l c)) (h3 : xs[1]? = some x') (hR : HR ρ γ own hp w) :
    ∃ new', VRs ρ γ new new' ∧
      (l + n ≤ c → ∀ w2, (match q with | some a => (storeCells (a.add (l * ei.size)) new').run P w = .ok () w2 | none => w2 = w) → (Builtin.append_ ats ty xs).run P w = .ok (.slice q (l + n) c) w2) ∧
      (c < l + n → l + n ≤ 2000000 → ∀ old, (∀ w1 : World, w1.heap = w.heap → (Builtin.firstCells ei.size l (.slice q l c)).run P w1 = .ok ⟨old⟩ w1) →
        ∃ newCap rest, l + n ≤ newCap ∧ rest.length = (newCap - (l + n)) * ei.size ∧
          (Builtin.append_ ats ty xs).run P w = .ok (.slice (some ⟨w.heap.size, 0, none⟩) (l + n) newCap) (w.drew.alloc (.cells ⟨old ++ new' ++ rest⟩ e))) := by
  have hei' := hE.tys _ _ hei
  obtain ⟨info, hi1, hi2, hi3, _⟩ := hei'.run_typeInfo
  obtain ⟨zv0, hz01, hz02, _⟩ := hei'.run_zero (ρ := ρ) (γ := γ) hz
  have hzs0 : zv0.cells.size = ei.size := by have := hz02.length; rw [hzl] at this; simpa using this.symm
  obtain ⟨td, htd, hcase⟩ := appSrc_ok hE hei hx h
  have hmax : ∀ m : Nat, m ≤ 2000000 → ¬ ((m : Int) > IntKind.i64.max) := by
    intro m hm; simp [IntKind.max, IntKind.signed, IntKind.bits]; omega
  have hrest : ∀ k, Builtin.zeroCells zv0.cells k = ⟨rep k zv0.cells.toList⟩ := fun k => by
    rw [Builtin.zeroCells, range_rep _ (by omega)]
  have hbi : info.bytes ≤ 100000 := by omega
  have hcut : ∀ need old t, need ≤ 2000000 → need ≤ (Question.appendCap need old e).cut t := by
    intro need old t hn; simp only [Question.cut]; omega
  rcases hcase with ⟨k, kk, rfl, rfl, hn, zv, hz1, hz2, hz3⟩ | ⟨hni, hsl, hfa⟩
  · have hbig : ¬ ((n : Int) * (info.bytes : Int) > 2 ^ 48) := by
      have h1 : n * info.bytes ≤ 100000 * 100000 := Nat.mul_le_mul hn hbi
      have h2 : (n : Int) * (info.bytes : Int) ≤ 2 ^ 48 := by exact_mod_cast Nat.le_trans h1 (by decide)
      omega
    have hneg : ¬ ((n : Int) < 0) := by omega
    have happ : ∀ w1 : World, (if n * ei.size = 0 then pure #[] else do pure (Builtin.zeroCells (← zeroValue e).cells n) : Sem (Array Value)).run P w1 = .ok ⟨rep n zv.cells.toList⟩ w1 := by
      intro w1
      by_cases h0 : n * ei.size = 0
      · have hn0 : n = 0 := (Nat.mul_eq_zero.1 h0).resolve_right hsz
        subst hn0
        simp [rep]
      · simp only [h0, if_false, Sem.run_bind, hz1, Result.andThen_ok, Sem.run_pure, Builtin.zeroCells]
        rw [range_rep _ (by omega)]
    refine ⟨_, hz3, fun hle w2 hw2 => ?_, fun hlt hneed old hold => ?_⟩
    · simp only [Builtin.append_, h0, h1, h2, h3, Sem.run_bind, hst, Result.andThen_ok, hei'.run_sizeOf, htd, Sem.run_pure, if_true, asInt, asIntOf, wrapN n hn, if_neg hneg, hi3, if_neg hbig, Int.toNat_natCast, if_pos hle,
        Bool.not_true, Bool.false_eq_true, if_false, happ]
      cases q with
      | none => subst hw2; rfl
      | some a => simp only at hw2; simp only [Sem.run_bind, hw2, Result.andThen_ok, Sem.run_pure]
    · refine ⟨_, rep ((Question.appendCap (l + n) c e).cut (w.tape w.drawn (.appendCap (l + n) c e)) - (l + n)) zv0.cells.toList, hcut (l + n) c (w.tape w.drawn (.appendCap (l + n) c e)) hneed, by rw [length_rep]; simp [hzs0], ?_⟩
      have hnle : ¬ (l + n ≤ c) := by omega
      have hg := grow_small (l + n) c info.bytes hlt hneed hbi
      have hm := hmax (l + n) hneed
      simp only [Builtin.append_, h0, h1, h2, h3, Sem.run_bind, hst, Result.andThen_ok, hei'.run_sizeOf, htd, Sem.run_pure, if_true, asInt, asIntOf, wrapN n hn, if_neg hneg, hi3, if_neg hbig, Int.toNat_natCast, if_neg hnle,
        Bool.not_true, Bool.false_eq_true, if_false, happ, hm, false_and, if_neg hg, run_choose, Question.forced, run_askRoom, hz01, hrest, newRow, run_newObj, World.alloc_eq, World.drew_eq]
      rw [hold w.drew rfl]
      simp
  · obtain ⟨new', hn1, hn2⟩ := first_ok (P := P) (w := w) hR hx hfa hsl (Nat.le_refl _)
    have hln : ∀ w1, (Builtin.lenOf x').run P w1 = .ok n w1 := fun w1 => seqLen_ok hx hsl
    refine ⟨_, hn2, fun hle w2 hw2 => ?_, fun hlt hneed old hold => ?_⟩
    · simp only [Builtin.append_, h0, h1, h2, h3, Sem.run_bind, hst, Result.andThen_ok, hei'.run_sizeOf, htd, Sem.run_pure, Bool.false_eq_true, if_false, hln, Bool.not_false, if_true, if_pos hle, hn1 w rfl]
      cases q with
      | none => subst hw2; rfl
      | some a => simp only at hw2; simp only [Sem.run_bind, hw2, Result.andThen_ok, Sem.run_pure]
    · refine ⟨_, rep ((Question.appendCap (l + n) c e).cut (w.tape w.drawn (.appendCap (l + n) c e)) - (l + n)) zv0.cells.toList, hcut (l + n) c (w.tape w.drawn (.appendCap (l + n) c e)) hneed, by rw [length_rep]; simp [hzs0], ?_⟩
      have hnle : ¬ (l + n ≤ c) := by omega
      have hg := grow_small (l + n) c info.bytes hlt hneed hbi
      have hm := hmax (l + n) hneed
      simp only [Builtin.append_, h0, h1, h2, h3, Sem.run_bind, hst, Result.andThen_ok, hei'.run_sizeOf, htd, Sem.run_pure, Bool.false_eq_true, if_false, hln, Bool.not_false, if_true, if_neg hnle, hi3,
        hm, false_and, if_neg hg, run_choose, Question.forced, run_askRoom, hz01, hrest, newRow, run_newObj, World.alloc_eq, World.drew_eq]
      rw [hold w.drew rfl]
      simp [hn1 w.drew rfl]
end
end
end Go.Ev
