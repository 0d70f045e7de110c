/- Plans of regions whose order is open: what the checks say. -/
import Derived.Test.YtmplfbdnidlpoaaGreatDoorEvSound3
namespace Go.Ev
noncomputable section

theorem testBit_lt {m i j : Nat} (h : m < 2 ^ i) (hj : m.testBit j = true) : j < i := by
  rcases Nat.lt_or_ge j i with hh | hh
  · exact hh
  · have : m < 2 ^ j := Nat.lt_of_lt_of_le h (Nat.pow_le_pow_right (by decide) hh)
    rw [Nat.testBit_lt_two_pow this] at hj; simp at hj

theorem within_ok {m d : Nat} (h : within m d = true) {j : Nat} (hj : m.testBit j = true) : d.testBit j = true := by
  have h := beq_iff.1 h
  have : (Nat.land m d).testBit j = (m.testBit j && d.testBit j) := Nat.testBit_and ..
  rw [h, hj] at this
  simpa using this.symm

theorem bit_or {d i j : Nat} : (Nat.lor d (2 ^ i)).testBit j = true ↔ d.testBit j = true ∨ i = j := by
  have : (Nat.lor d (2 ^ i)).testBit j = (d.testBit j || (2 ^ i).testBit j) := Nat.testBit_or ..
  rw [this, Nat.testBit_two_pow]
  simp

structure Stat (E : Env) (ops : Array Oper) (ms : List Nat) (ps : List PI) : Prop where
  ent : ∀ p ∈ ps, ops[p.i]? = some p.o ∧ p.k = kindOf E p.o.op ∧ p.m = ms.getD p.i 0
  all : ∀ (i : Nat) o, ops[i]? = some o → ∃ p ∈ ps, p.i = i
  pair : ∀ x ∈ ps, ∀ y ∈ ps, pairOk ops.toList x y = true
  edge : ∀ p ∈ ps, ∀ j ∈ edgesOf p.o, p.m.testBit j = true
  low : ∀ p ∈ ps, p.m < 2 ^ p.i
  mask : ∀ p ∈ ps, ∀ j, j < ops.size → p.m.testBit j = true → ∃ e ∈ edgesOf p.o, e = j ∨ (ms.getD e 0).testBit j = true

theorem mkPIs_ent (E : Env) : ∀ (os : List Oper) (ms : List Nat) (i : Nat) (p : PI), p ∈ mkPIs E os ms i → i ≤ p.i ∧ os[p.i - i]? = some p.o ∧ p.k = kindOf E p.o.op ∧ p.m = ms.getD (p.i - i) 0
  | [], _, _, p, h => by simp [mkPIs] at h
  | _ :: _, [], _, p, h => by simp [mkPIs] at h
  | o :: os, m :: ms, i, p, h => by
    simp only [mkPIs, List.mem_cons] at h
    rcases h with rfl | h
    · simp
    · obtain ⟨h1, h2, h3, h4⟩ := mkPIs_ent E os ms (Nat.add i 1) p h
      simp only [Nat.add_eq] at h1 h2 h4
      have : p.i - i = (p.i - (i + 1)) + 1 := by omega
      rw [this]
      exact ⟨by omega, by simpa using h2, h3, by simpa using h4⟩

theorem mkPIs_all (E : Env) : ∀ (os : List Oper) (ms : List Nat) (i j : Nat), os.length ≤ ms.length → j < os.length → ∃ p ∈ mkPIs E os ms i, p.i = i + j
  | [], _, _, j, _, h => by simp at h
  | o :: os, [], i, j, h, _ => by simp at h
  | o :: os, m :: ms, i, j, h, hj => by
    cases j with
    | zero => exact ⟨_, List.mem_cons_self .., rfl⟩
    | succ j =>
      obtain ⟨p, h1, h2⟩ := mkPIs_all E os ms (Nat.add i 1) j (by simpa using h) (by simpa using hj)
      exact ⟨p, List.mem_cons_of_mem _ h1, by rw [h2]; simp only [Nat.add_eq]; omega⟩

theorem masksFrom_length : ∀ (os : List Oper) (acc : List Nat), (masksFrom os acc).length = acc.length + os.length
  | [], acc => by simp [masksFrom]
  | o :: os, acc => by simp only [masksFrom, masksFrom_length os]; simp; omega

theorem sub_cons {α : Type} {a : α} {l m : List α} (h : ∀ p ∈ l, p ∈ m) : ∀ p ∈ a :: l, p ∈ a :: m := by
  intro p hp
  rcases List.mem_cons.1 hp with rfl | hp
  · exact List.mem_cons_self ..
  · exact List.mem_cons_of_mem _ (h p hp)
theorem all_cons {α : Type} {a : α} {l : List α} {P : α → Prop} (h0 : P a) (h : ∀ p ∈ l, P p) : ∀ p ∈ a :: l, P p := by
  intro p hp
  rcases List.mem_cons.1 hp with rfl | hp
  · exact h0
  · exact h p hp

theorem takeQuiet_mem : ∀ (ps : List PI) (d : Nat), (∀ p ∈ (takeQuiet ps d).1, p ∈ ps) ∧ ∀ p ∈ (takeQuiet ps d).2.1, p ∈ ps
  | [], d => by simp [takeQuiet]
  | q :: ps, d => by
    have h1 := takeQuiet_mem ps (Nat.lor d (2 ^ q.i))
    have h2 := takeQuiet_mem ps d
    simp only [takeQuiet]
    split
    · exact ⟨sub_cons h1.1, fun p hp => List.mem_cons_of_mem _ (h1.2 p hp)⟩
    · exact ⟨fun p hp => List.mem_cons_of_mem _ (h2.1 p hp), sub_cons h2.2⟩

theorem takeLoud_mem : ∀ (ps : List PI) (d : Nat) (q : PI) (qs : List PI), takeLoud ps d = some (q, qs) → q ∈ ps ∧ ∀ p ∈ qs, p ∈ ps
  | [], d, q, qs, h => by simp [takeLoud] at h
  | x :: ps, d, q, qs, h => by
    simp only [takeLoud] at h
    split at h
    · injection h with h; injection h with h1 h2; subst h1; subst h2
      exact ⟨List.mem_cons_self .., fun p hp => List.mem_cons_of_mem _ hp⟩
    · split at h
      · rename_i q' qs' heq
        injection h with h; injection h with h1 h2; subst h1; subst h2
        obtain ⟨k1, k2⟩ := takeLoud_mem ps d _ _ heq
        exact ⟨List.mem_cons_of_mem _ k1, sub_cons k2⟩
      · simp at h

theorem orderOf_mem : ∀ (f : Nat) (ps : List PI) (d : Nat), ∀ p ∈ orderOf f ps d, p ∈ ps
  | 0, ps, d, p, h => by simp [orderOf] at h
  | f + 1, ps, d, p, h => by
    simp only [orderOf, List.mem_append] at h
    have hq := takeQuiet_mem ps d
    rcases h with h | h
    · exact hq.1 p h
    · split at h
      · rename_i q qs heq
        obtain ⟨k1, k2⟩ := takeLoud_mem _ _ _ _ heq
        rcases List.mem_cons.1 h with rfl | h
        · exact hq.2 _ k1
        · exact hq.2 _ (k2 _ (orderOf_mem f _ _ p h))
      · simp at h

theorem wholeOk_mem {all : List Oper} {ms : List Nat} : ∀ {ps : List PI}, wholeOk all ms ps = true → ∀ p ∈ ps, p.m < 2 ^ p.i ∧ maskOk ms all.length p.m (edgesOf p.o) = true
  | [], _, p, hp => by simp at hp
  | q :: ps, h, p, hp => by
    simp only [wholeOk, Bool.and_eq_true] at h
    rcases List.mem_cons.1 hp with rfl | hp
    · exact ⟨ble_iff.1 h.1, h.2.1⟩
    · exact wholeOk_mem h.2.2 p hp

theorem maskOk_ok {ms : List Nat} {n m : Nat} {es : List Nat} (h : maskOk ms n m es = true) :
    (∀ j ∈ es, m.testBit j = true) ∧ ∀ j, j < n → m.testBit j = true → ∃ e ∈ es, e = j ∨ (ms.getD e 0).testBit j = true := by
  simp only [maskOk, Bool.and_eq_true, List.all_eq_true, List.mem_range, Bool.or_eq_true, Bool.not_eq_true', List.any_eq_true] at h
  refine ⟨h.1, fun j hj hm => ?_⟩
  rcases h.2 j hj with h | ⟨e, he, h⟩
  · rw [hm] at h; simp at h
  · exact ⟨e, he, h.imp (fun x => beq_iff.1 x) id⟩

theorem planOf_ok {E : Env} {ops : Array Oper} {pl : List PI} (h : planOf E ops.toList = some pl) :
    ∃ ms ps, Stat E ops ms ps ∧ (∀ p ∈ pl, p ∈ ps) ∧ planChk ops.toList pl 0 = true := by
  simp only [planOf, og_some] at h
  obtain ⟨h1, h2, h3, h4⟩ := h
  injection h4 with h4; subst h4
  refine ⟨masksFrom ops.toList [], mkPIs E ops.toList (masksFrom ops.toList []) 0, ⟨?_, ?_, ?_, ?_, ?_, ?_⟩, orderOf_mem _ _ _, h3⟩
  · intro p hp
    obtain ⟨_, k1, k2, k3⟩ := mkPIs_ent E _ _ _ p hp
    exact ⟨by simpa using k1, k2, by simpa using k3⟩
  · intro i o ho
    have hi : i < ops.toList.length := by
      have := (Array.getElem?_eq_some_iff.1 ho).1
      simpa using this
    obtain ⟨p, k1, k2⟩ := mkPIs_all E ops.toList (masksFrom ops.toList []) 0 i (by rw [masksFrom_length]; simp) hi
    exact ⟨p, k1, by omega⟩
  · intro x hx y hy
    rw [List.all_eq_true] at h1
    have := h1 x hx
    rw [List.all_eq_true] at this
    exact this y hy
  · intro p hp j hj
    exact (maskOk_ok (wholeOk_mem h2 p hp).2).1 j hj
  · intro p hp
    exact (wholeOk_mem h2 p hp).1
  · intro p hp j hj hm
    exact (maskOk_ok (wholeOk_mem h2 p hp).2).2 j (by simpa using hj) hm

theorem planChk_cons {all : List Oper} {p : PI} {ps : List PI} {d : Nat} (h : planChk all (p :: ps) d = true) :
    d.testBit p.i = false ∧ within p.m d = true ∧ (isLoud p.k = true → ∀ q ∈ ps, q.m.testBit p.i = true) ∧ planChk all ps (Nat.lor d (2 ^ p.i)) = true := by
  simp only [planChk, Bool.and_eq_true, Bool.or_eq_true, Bool.not_eq_true', List.all_eq_true] at h
  exact ⟨h.1, h.2.1, fun hl q hq => (h.2.2.1.resolve_left (by simp [hl])) q hq, h.2.2.2⟩

theorem planChk_left {all : List Oper} : ∀ {pl : List PI} {d : Nat}, planChk all pl d = true → ∀ i, i < all.length → d.testBit i = false → ∃ q ∈ pl, q.i = i
  | [], d, h, i, hi, hd => by
    simp only [planChk] at h
    have h := beq_iff.1 h
    subst h
    rw [Nat.testBit_two_pow_sub_one] at hd
    simp at hd; omega
  | p :: ps, d, h, i, hi, hd => by
    obtain ⟨_, _, _, h4⟩ := planChk_cons h
    by_cases hpi : p.i = i
    · exact ⟨p, List.mem_cons_self .., hpi⟩
    · have : (Nat.lor d (2 ^ p.i)).testBit i = false := by
        rw [Bool.eq_false_iff]; intro hh
        rcases bit_or.1 hh with hh | hh
        · rw [hd] at hh; simp at hh
        · exact hpi hh
      obtain ⟨q, hq, hqi⟩ := planChk_left h4 i hi this
      exact ⟨q, List.mem_cons_of_mem _ hq, hqi⟩

theorem elemOf_iff {x : Nat} : ∀ {l : List Nat}, elemOf x l = true ↔ x ∈ l
  | [] => by simp [elemOf]
  | y :: ys => by
    simp only [elemOf, bc_eq, List.mem_cons]
    split
    · rename_i h; simp [beq_iff.1 h]
    · rename_i h
      rw [elemOf_iff]
      constructor
      · exact .inr
      · rintro (h1 | h1)
        · exact absurd (beq_iff.2 h1) h
        · exact h1

theorem sameDst_iff {d : Nat} {o : Option Nat} : sameDst d o = true ↔ o = some d := by
  cases o with
  | none => simp [sameDst]
  | some e => simp only [sameDst, beq_iff, Option.some.injEq]; exact eq_comm

theorem pairOk_ok {all : List Oper} {x y : PI} (h : pairOk all x y = true) (hne : x.i ≠ y.i) {d : Nat} (hd : x.o.dst = some d) :
    y.o.dst ≠ some d ∧ (d ∈ readsOf all y.o → y.m.testBit x.i = true ∨ x.m.testBit y.i = true) := by
  simp only [pairOk, hd, Bool.or_eq_true, beq_iff, hne, false_or, Bool.and_eq_true, Bool.not_eq_true'] at h
  refine ⟨fun hh => ?_, fun hm => ?_⟩
  · rw [sameDst_iff.2 hh] at h; simp at h
  · rcases h.2 with h | h
    · rw [elemOf_iff.2 hm] at h; simp at h
    · exact h

theorem get_pickTm (tm : PT AV) (t : Nat) : ∀ (l : List Nat), (pickTm tm l).get t = if t ∈ l then tm.get t else none
  | [] => by simp [pickTm]
  | x :: xs => by
    simp only [pickTm]
    cases hx : tm.get x with
    | none =>
      simp only [get_pickTm tm t xs, List.mem_cons]
      by_cases h : t = x
      · subst h; simp [hx]
      · simp [h]
    | some v =>
      simp only [PT.get_put, get_pickTm tm t xs, List.mem_cons]
      by_cases h : x = t
      · subst h; simp [hx]
      · simp [h, Ne.symm h]

theorem get_killD : ∀ (os : List Oper) (tm : PT AV) (t : Nat) (v : AV), (killD os tm).get t = some v → tm.get t = some v ∧ ∀ o ∈ os, o.dst ≠ some t
  | [], tm, t, v, h => by simpa [killD] using h
  | o :: os, tm, t, v, h => by
    simp only [killD] at h
    obtain ⟨h1, h2⟩ := get_killD os _ t v h
    cases hd : o.dst with
    | none =>
      rw [hd] at h1
      exact ⟨h1, all_cons (by simp [hd]) h2⟩
    | some d =>
      rw [hd] at h1
      simp only [PT.get_del] at h1
      split at h1
      · simp at h1
      · rename_i hne
        exact ⟨h1, all_cons (by rw [hd]; simpa using hne) h2⟩
end
end Go.Ev
