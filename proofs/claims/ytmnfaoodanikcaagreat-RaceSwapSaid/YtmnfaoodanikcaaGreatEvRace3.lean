/- Rounds of the loop. -/
import Derived.Test.YtmnfaoodanikcaaGreatEvRace2
namespace Go.Ev
noncomputable section
variable {K : KI}

section
variable {P : Program} {E : Env} {B : Base} {γ : G} {s s' : St} {a : Act} {w : World}

/-- a region by the table -/
theorem region_H (hE : EnvOk P E) {H : Op → PT AV → Option AV} (hH : HOk P B.ρ w H) {ops : Array Oper} {id : Nat} {Q : Exit → Act → World → Prop} (h : runH E H ops.toList ops.toList s = some s') (hS : StR B γ s a w)
    (hk : ∀ a', StR B γ s' a' w → Q .normal a' w) : (Code.region id ops false).wp P Q a w := by
  refine wp_region ?_
  have := runH_ok (P := P) (m := 0) (Q := Q) hE hH ops.toList 0 s s' a h (fun j o hj => by simpa using hj) hS (fun a' hS' => by simpa [wpOps] using hk a' hS')
  rw [List.range_eq_range', ← Array.length_toList]
  exact this

/-- a table changes no slot but those that are written -/
theorem runH_frame {H : Op → PT AV → Option AV} {all : List Oper} : ∀ (l : List Oper) (s s' : St), runH E H all l s = some s' →
    s'.nt = s.nt ∧ s'.df = s.df ∧ s'.hp = s.hp ∧ s'.nx = s.nx ∧ ∀ t, (∀ o ∈ l, o.dst ≠ some t) → s'.tm.get t = s.tm.get t
  | [], s, s', h => by
    simp only [runH] at h
    injection h with h; subst h
    exact ⟨rfl, rfl, rfl, rfl, fun _ _ => rfl⟩
  | o :: os, s, s', h => by
    have key : ∀ {v s1}, putD s o.dst v = some s1 → runH E H all os s1 = some s' → s'.nt = s.nt ∧ s'.df = s.df ∧ s'.hp = s.hp ∧ s'.nx = s.nx ∧ ∀ t, (∀ x ∈ o :: os, x.dst ≠ some t) → s'.tm.get t = s.tm.get t := by
      intro v s1 hp hr
      obtain ⟨k1, k2, k3, k4, k5⟩ := runH_frame os s1 s' hr
      obtain ⟨q1, q2, q3, q4, _, q6⟩ := putD_some hp
      refine ⟨k1.trans q1, k2.trans q2, k3.trans q3, k4.trans q4, fun t ht => ?_⟩
      rw [k5 t (fun x hx => ht x (List.mem_cons_of_mem _ hx)), q6 t (ht o (List.mem_cons_self ..))]
    simp only [runH, ob_some] at h
    obtain ⟨b, _, h⟩ := h
    cases b with
    | false =>
      simp only [bc_false, ob_some] at h
      obtain ⟨s1, hp, h⟩ := h
      exact key hp h
    | true =>
      simp only [bc_true, ob_some] at h
      obtain ⟨v, _, s1, hp, h⟩ := h
      exact key hp h

theorem normal?_some {r : Res} {s : St} (h : normal? r = some s) : r = .code .normal s := by
  unfold normal? at h
  split at h
  · injection h with h; rw [h]
  · simp at h

def RC.round (r : RC) : Code :=
  .seq (.seq (.region r.j8 r.ops8 false) (.cond r.c59 .skip (.exit r.i0))) (.seq (.block r.i1 (.seq r.r10 (.seq r.r11 (.cond r.c66 (.region r.j12 r.ops12 false) .skip)))) (.region r.j9 r.ops9 false))

/-- one round -/
theorem pass_ok (hE : EnvOk P E) (hSum : SumOk P E K) (hB : Good K B) {n : Nat} {r : RC} {H : Op → PT AV → Option AV} (hH : ∀ w', Fr B.own B.w w' → HOk P B.ρ w' H) (h : pass E n r H s = some s') (hS : StR B γ s a w)
    {K : Act → World → Prop} {Q : Exit → Act → World → Prop} (hK : ∀ γ' a' w', StR B γ' s' a' w' → K a' w') : r.round.wp P (Exit.then K Q) a w := by
  simp only [pass, ob_some, og_some, AV.bool?_some] at h
  obtain ⟨s8, h8, v, hv, t, rfl, ht, x, hx, s10, h10, y, hy, s11, h11, v2, hv2, t2, rfl, h⟩ := h
  subst ht
  have h10 := normal?_some h10
  have h11 := normal?_some h11
  subst h10; subst h11
  refine wp_seq (wp_seq (region_H hE (hH w hS.later.fr) h8 hS fun a1 hS8 => ?_))
  have hb := opnd_ok hS8.tm hv
  generalize hc : a1.eval r.c59 = c at hb
  cases hb
  refine wp_cond_true hc (wp_skip ?_)
  refine wp_seq (wp_block (wp_seq (wp_mono (run_ok hE hSum n _ _ hx B hB γ a1 w hS8) fun e a2 w2 hq => ?_)))
  obtain ⟨ae, s1, γ2, hr, hS10, hex⟩ := hq
  injection hr with e1 e2; subst e1; subst e2
  cases e <;> simp only [ExR] at hex
  refine wp_seq (wp_mono (run_ok hE hSum n _ _ hy B hB γ2 a2 w2 hS10) fun e a3 w3 hq => ?_)
  obtain ⟨ae, s1, γ3, hr, hS11, hex⟩ := hq
  injection hr with e1 e2; subst e1; subst e2
  cases e <;> simp only [ExR] at hex
  have hb2 := opnd_ok hS11.tm hv2
  generalize hc2 : a3.eval r.c66 = c at hb2
  cases hb2
  have fin : ∀ {γ4 a4 w4 s4}, StR B γ4 s4 a4 w4 → runH E H r.ops9.toList r.ops9.toList s4 = some s' → (Code.region r.j9 r.ops9 false).wp P (Exit.then K Q) a4 w4 := fun hS4 h9 =>
    region_H hE (hH _ hS4.later.fr) h9 hS4 fun a5 hS5 => hK _ _ _ hS5
  cases t2 with
  | false =>
    simp only [bc_false] at h
    exact wp_cond_false hc2 (wp_skip (fin hS11 h))
  | true =>
    simp only [bc_true, ob_some] at h
    obtain ⟨s12, h12, z, hz, s13, h13, h9⟩ := h
    have h13 := normal?_some h13
    subst h13
    refine wp_cond_true hc2 (wp_mono (Q := CodeQ B (.code .normal s13)) ?_ fun e a4 w4 hq => ?_)
    · refine wp_region ?_
      have hl : (r.ops12.toList.take 11).length + (r.ops12.toList.drop 11).length = r.ops12.toList.length := by simp; omega
      have := runH_ok (P := P) (m := (r.ops12.toList.drop 11).length) (Q := CodeQ B (.code .normal s13)) hE (hH _ hS11.later.fr) (r.ops12.toList.take 11) 0 s11 s12 a3 h12
        (fun j o hj => by
          rw [List.getElem?_take] at hj
          split at hj
          · simpa using hj
          · simp at hj) hS11 (fun a' hS' => ?_)
      · rw [List.range_eq_range', ← Array.length_toList, ← hl]
        exact this
      · refine run_ok hE hSum n _ _ hz B hB γ3 a' w3 hS' r.ops12 _ rfl ?_
        by_cases hlen : 11 ≤ r.ops12.toList.length
        · rw [List.length_take, Nat.min_eq_left hlen, Nat.zero_add]
        · rw [List.length_take, Nat.min_eq_right (by omega), Nat.zero_add, List.drop_length, List.drop_eq_nil_of_le (by omega)]
    · obtain ⟨ae, s1, γ4, hr, hS13, hex⟩ := hq
      injection hr with e1 e2; subst e1; subst e2
      cases e <;> simp only [ExR] at hex
      exact fin hS13 h9

/-- the loop's end -/
theorem ends_ok (hE : EnvOk P E) {r : RC} {H : Op → PT AV → Option AV} (hH : HOk P B.ρ w H) (h : endsAt E r H s = true) (hS : StR B γ s a w) {K : Act → World → Prop} {Q : Exit → Act → World → Prop}
    (hQ : ∀ a', StR B γ (endS r s) a' w → Q (.exit r.i0) a' w) : r.round.wp P (Exit.then K Q) a w := by
  unfold endsAt at h
  split at h
  · rename_i b hb
    simp only [ob_some, AV.bool?_some] at hb
    obtain ⟨s8, h8, v, hv, rfl⟩ := hb
    have hb : b = false := by simpa using h
    subst hb
    refine wp_seq (wp_seq (region_H hE hH h8 hS fun a1 hS8 => ?_))
    have hb := opnd_ok hS8.tm hv
    generalize hc : a1.eval r.c59 = c at hb
    cases hb
    refine wp_cond_false hc (wp_exit ?_)
    obtain ⟨k1, k2, k3, k4, k5⟩ := runH_frame _ _ _ h8
    refine hQ a1 (hS8.less (fun t v ht => ?_) k1.symm k2.symm (fun b o ho => ?_) k4.symm)
    · have h1 := get_purgeTm ht
      simp only [get_pickTm] at h1
      split at h1
      · obtain ⟨h2, h3⟩ := get_killD _ _ _ _ h1
        rw [k5 t h3]; exact h2
      · simp at h1
    · rw [k3]; exact get_purge ho
  · simp at h

open Classical in
/-- a loop of N rounds -/
theorem wp_loop_count {c : Code} {Q : Exit → Act → World → Prop} {N : Nat} {J : Nat → Act → World → Prop} (hstep : ∀ j, j < N → ∀ a w, J j a w → c.wp P (Exit.then (J (j + 1)) Q) a w)
    (hlast : ∀ a w, J N a w → c.wp P (Exit.then (fun _ _ => False) Q) a w) (h0 : J 0 a w) : (Code.loop c).wp P Q a w := by
  let I : Act → World → Prop := fun a w => ∃ t, ∃ j, j + t = N ∧ J j a w
  let μ : Act → World → Nat := fun a w => if h : I a w then Classical.choose (exists_least _ h) else 0
  refine wp_loop I μ ⟨N, 0, by omega, h0⟩ ?_
  intro a w hI
  have hμ : μ a w = Classical.choose (exists_least _ hI) := dif_pos hI
  obtain ⟨j, hj, hJ⟩ := (Classical.choose_spec (exists_least _ hI)).1
  rw [← hμ] at hj
  by_cases hjN : j = N
  · subst hjN
    refine wp_mono (hlast a w hJ) fun e a' w' hq => ?_
    cases e <;> first | exact hq.elim | exact hq
  · refine wp_mono (hstep j (by omega) a w hJ) fun e a' w' hq => ?_
    cases e <;> try exact hq
    have hI' : I a' w' := ⟨N - (j + 1), j + 1, by omega, hq⟩
    refine ⟨hI', ?_⟩
    have hμ' : μ a' w' = Classical.choose (exists_least _ hI') := dif_pos hI'
    have := (Classical.choose_spec (exists_least _ hI')).2 (N - (j + 1)) ⟨j + 1, by omega, hq⟩
    rw [hμ']
    omega
end
end
end Go.Ev
