/- Plain laws of the evaluator's own words. -/
import Derived.Test.YtmnfaoodanikcaaGreatEvCore
import Derived.Calls
import Derived.Orders
import Derived.Recover
import Derived.Laws.Sem
import Derived.Laws.World
import Derived.Laws.Cells
import Derived.Below
namespace Go.Ev
noncomputable section

theorem ble_iff {a b : Nat} : Nat.ble a b = true ↔ a ≤ b := by rw [Nat.ble_eq]
theorem beq_iff {a b : Nat} : Nat.beq a b = true ↔ a = b := ⟨Nat.eq_of_beq_eq_true, fun h => by subst h; exact Nat.beq_refl a⟩

@[simp] theorem ob_some {α β : Type} (x : Option α) (f : α → Option β) (b : β) : ob x f = some b ↔ ∃ a, x = some a ∧ f a = some b := by
  cases x <;> simp [ob]
@[simp] theorem og_some {β : Type} (c : Bool) (x : Option β) (b : β) : og c x = some b ↔ c = true ∧ x = some b := by
  cases c <;> simp [og]
@[simp] theorem bc_true {α : Type} (f t : α) : bc f t true = t := rfl
@[simp] theorem bc_false {α : Type} (f t : α) : bc f t false = f := rfl
theorem bc_eq {α : Type} (f t : α) (c : Bool) : bc f t c = if c = true then t else f := by cases c <;> rfl
@[simp] theorem oc_none {α β : Type} (n : β) (f : α → β) : oc n f none = n := rfl
@[simp] theorem oc_some {α β : Type} (n : β) (f : α → β) (a : α) : oc n f (some a) = f a := rfl

namespace PT
variable {α : Type}
@[simp] theorem get_nil (k : Nat) : (nil : PT α).get k = none := rfl
theorem get_node (l : PT α) (v : Option α) (r : PT α) (k : Nat) :
    (node l v r).get k = if k = 0 then v else if k % 2 = 1 then l.get (k / 2) else r.get (k / 2 - 1) := by
  show bc (bc (r.get (Nat.sub (Nat.div k 2) 1)) (l.get (Nat.div k 2)) (Nat.beq (Nat.mod k 2) 1)) v (Nat.beq k 0) = _
  rw [bc_eq, bc_eq]
  simp only [Nat.beq_eq]
  rfl
theorem setF_nil (x : Option α) (f k : Nat) : setF x (f + 1) nil k =
    if k = 0 then node nil x nil else if k % 2 = 1 then node (setF x f nil (k / 2)) none nil else node nil none (setF x f nil (k / 2 - 1)) := by
  show bc (bc (node nil none (setF x f nil (Nat.sub (Nat.div k 2) 1))) (node (setF x f nil (Nat.div k 2)) none nil) (Nat.beq (Nat.mod k 2) 1)) (node nil x nil) (Nat.beq k 0) = _
  rw [bc_eq, bc_eq]
  simp only [Nat.beq_eq]
  rfl
theorem setF_node (x : Option α) (f k : Nat) (l : PT α) (v : Option α) (r : PT α) : setF x (f + 1) (node l v r) k =
    if k = 0 then node l x r else if k % 2 = 1 then node (setF x f l (k / 2)) v r else node l v (setF x f r (k / 2 - 1)) := by
  show bc (bc (node l v (setF x f r (Nat.sub (Nat.div k 2) 1))) (node (setF x f l (Nat.div k 2)) v r) (Nat.beq (Nat.mod k 2) 1)) (node l x r) (Nat.beq k 0) = _
  rw [bc_eq, bc_eq]
  simp only [Nat.beq_eq]
  rfl
theorem get_setF (x : Option α) : ∀ (f : Nat) (t : PT α) (k j : Nat), k < f → (setF x f t k).get j = if k = j then x else t.get j
  | 0, _, _, _, h => absurd h (Nat.not_lt_zero _)
  | f + 1, t, k, j, h => by
    have ih := get_setF x f
    cases t with
    | nil =>
      rw [setF_nil]
      split
      · rename_i hk; subst hk; rw [get_node]; by_cases hj : j = 0
        · simp [hj]
        · simp [hj, Ne.symm hj]
      · split
        · rename_i hk hk1; rw [get_node, ih _ _ _ (by omega)]; simp only [get_nil]
          by_cases hj : j = 0
          · subst hj; simp [hk]
          · by_cases hj1 : j % 2 = 1
            · simp only [hj, hj1, if_true, if_false]; congr 1; rw [eq_iff_iff]; omega
            · simp only [hj, hj1, if_false]; rw [if_neg (by omega)]
        · rename_i hk hk1; rw [get_node, ih _ _ _ (by omega)]; simp only [get_nil]
          by_cases hj : j = 0
          · subst hj; simp [hk]
          · by_cases hj1 : j % 2 = 1
            · simp only [hj, hj1, if_true, if_false]; rw [if_neg (by omega)]
            · simp only [hj, hj1, if_false]; congr 1; rw [eq_iff_iff]; omega
    | node l v r =>
      rw [setF_node]
      split
      · rename_i hk; subst hk; rw [get_node, get_node]; by_cases hj : j = 0
        · simp [hj]
        · simp [hj, Ne.symm hj]
      · split
        · rename_i hk hk1; rw [get_node, get_node, ih _ _ _ (by omega)]
          by_cases hj : j = 0
          · subst hj; simp [hk]
          · by_cases hj1 : j % 2 = 1
            · simp only [hj, hj1, if_true, if_false]; congr 1; rw [eq_iff_iff]; omega
            · simp only [hj, hj1, if_false]; rw [if_neg (by omega)]
        · rename_i hk hk1; rw [get_node, get_node, ih _ _ _ (by omega)]
          by_cases hj : j = 0
          · subst hj; simp [hk]
          · by_cases hj1 : j % 2 = 1
            · simp only [hj, hj1, if_true, if_false]; rw [if_neg (by omega)]
            · simp only [hj, hj1, if_false]; congr 1; rw [eq_iff_iff]; omega
theorem get_put (t : PT α) (k : Nat) (x : α) (j : Nat) : (t.put k x).get j = if k = j then some x else t.get j := get_setF _ _ _ _ _ (Nat.lt_succ_self k)
theorem get_del (t : PT α) (k j : Nat) : (t.del k).get j = if k = j then none else t.get j := get_setF _ _ _ _ _ (Nat.lt_succ_self k)
end PT

theorem nth_eq {α : Type} : ∀ (l : List α) (n : Nat), nth l n = l[n]?
  | [], n => by simp [nth]
  | a :: as, n => by
    show bc (nth as (Nat.sub n 1)) (some a) (Nat.beq n 0) = _
    rw [bc_eq, nth_eq as]
    cases n with
    | zero => simp
    | succ n => simp

theorem cellOf_eq (t : PT AV) (z : List AV) (n i : Nat) : cellOf t z n i = if i < n then (match t.get i with | some v => some v | none => z[i % z.length]?) else none := by
  unfold cellOf
  by_cases h : i < n
  · rw [if_pos h]
    have : Nat.ble (Nat.add i 1) n = true := ble_iff.2 h
    rw [this]
    cases ht : t.get i with
    | some v => rfl
    | none => simp only [oc_none, nth_eq]; rfl
  · rw [if_neg h]
    have : Nat.ble (Nat.add i 1) n = false := by
      rw [Bool.eq_false_iff]; intro hh; exact h (ble_iff.1 hh)
    rw [this]; rfl

theorem cellsFrom_spec (t : PT AV) (z : List AV) (n : Nat) : ∀ (k i : Nat) (vs : List AV), cellsFrom t z n k i = some vs →
    vs.length = k ∧ ∀ j v, vs[j]? = some v → cellOf t z n (i + j) = some v
  | 0, i, vs, h => by simp [cellsFrom] at h; subst h; simp
  | k + 1, i, vs, h => by
    simp only [cellsFrom, ob_some] at h
    obtain ⟨v, hv, ws, hws, he⟩ := h
    injection he with he; subst he
    obtain ⟨h1, h2⟩ := cellsFrom_spec t z n k _ ws hws
    refine ⟨by simp [h1], fun j u hj => ?_⟩
    cases j with
    | zero => simp at hj; subst hj; simpa using hv
    | succ j =>
      simp at hj
      have := h2 j u hj
      rwa [show Nat.add i 1 + j = i + (j + 1) by simp only [Nat.add_eq]; omega] at this

theorem get_putCells : ∀ (vs : List AV) (t : PT AV) (i j : Nat), (putCells vs t i).get j = if i ≤ j ∧ j < i + vs.length then vs[j - i]? else t.get j
  | [], t, i, j => by simp [putCells]; omega
  | v :: vs, t, i, j => by
    rw [putCells, get_putCells vs, PT.get_put]
    simp only [Nat.add_eq, List.length_cons]
    by_cases h1 : i = j
    · subst h1
      rw [if_neg (by omega), if_pos rfl, if_pos (by omega)]
      simp
    · by_cases h2 : i + 1 ≤ j ∧ j < i + 1 + vs.length
      · rw [if_pos h2, if_pos (by omega), show j - i = (j - (i + 1)) + 1 by omega]
        simp
      · rw [if_neg h2, if_neg h1, if_neg (by omega)]

theorem get_rowOf (vs : List AV) (j : Nat) : (rowOf vs).get j = vs[j]? := by
  rw [rowOf, get_putCells]
  by_cases h : j < vs.length
  · rw [if_pos (by omega)]; simp
  · rw [if_neg (by omega)]; simp; omega

theorem allOne_spec : ∀ {vs : List AV}, allOne vs = true → ∀ v ∈ vs, v.one = true
  | [], _, v, hv => by simp at hv
  | a :: as, h, v, hv => by
    rw [allOne, bc_eq] at h
    split at h
    · rename_i ha
      rcases List.mem_cons.1 hv with rfl | hv
      · exact ha
      · exact allOne_spec h v hv
    · simp at h

theorem eqInt_eq (a b : Int) : eqInt a b = decide (a = b) := by
  cases a <;> cases b <;> simp only [eqInt] <;> rw [Bool.eq_iff_iff] <;> simp <;> omega
theorem ltInt_eq (a b : Int) : ltInt a b = decide (a < b) := by
  cases a <;> cases b <;> simp only [ltInt] <;> rw [Bool.eq_iff_iff] <;> simp [Nat.ble_eq] <;> omega
theorem leInt_eq (a b : Int) : leInt a b = decide (a ≤ b) := by
  rw [leInt, ltInt_eq, Bool.eq_iff_iff]; simp
theorem eqKind_eq (a b : IntKind) : eqKind a b = decide (a = b) := rfl

theorem wrapSmall (k : IntKind) (m : Nat) (h : m ≤ 127) : IntKind.wrap k (m : Int) = m := by
  have e : (m : Int) % (2 ^ k.bits : Int) = m := by
    apply Int.emod_eq_of_lt (by omega)
    cases k <;> simp [IntKind.bits] <;> omega
  simp only [IntKind.wrap, e]
  rw [if_neg]
  cases k <;> simp [IntKind.signed, IntKind.bits] <;> omega
theorem wrap_eq (k : IntKind) (n : Int) : wrap k n = IntKind.wrap k n := by
  cases n with
  | ofNat m =>
    rw [wrap, bc_eq]
    split
    · rename_i h; exact (wrapSmall k m (ble_iff.1 h)).symm
    · rfl
  | negSucc m => rfl
theorem i64_wrap (n : Int) : IntKind.wrap .i64 n = if (9223372036854775808 : Int) ≤ n % 18446744073709551616 then n % 18446744073709551616 - 18446744073709551616 else n % 18446744073709551616 := by
  simp [IntKind.wrap, IntKind.bits, IntKind.signed]
theorem wrap64_eq (n : Int) : wrap64 n = IntKind.wrap .i64 n := by
  cases n with
  | ofNat m =>
    rw [wrap64, bc_eq]
    split
    · rename_i h
      have h := ble_iff.1 h
      show (m : Int) = IntKind.wrap .i64 (m : Int)
      rw [i64_wrap]; split <;> omega
    · rfl
  | negSucc m =>
    rw [wrap64, bc_eq]
    split
    · rename_i h
      have h := ble_iff.1 h
      rw [i64_wrap, Int.negSucc_eq]; split <;> omega
    · rfl
theorem wrapA_eq (k : IntKind) (n : Int) : wrapA k n = IntKind.wrap k n := by
  cases k <;> simp [wrapA, wrap_eq, wrap64_eq]

end
end Go.Ev
