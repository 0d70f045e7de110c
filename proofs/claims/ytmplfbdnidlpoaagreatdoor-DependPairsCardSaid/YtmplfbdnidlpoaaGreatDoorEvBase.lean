/- Plain laws of the evaluator's own words. -/
import Derived.Test.YtmplfbdnidlpoaaGreatDoorEvCore
import Derived.Calls
import Derived.Orders
import Derived.Recover
import Derived.Laws.Sem
import Derived.Laws.World
import Derived.Laws.Cells
import Derived.Below
namespace Go.Ev
noncomputable section

theorem ble_iff {a b : Nat} : Nat.ble a b = true ↔ a ≤ b := by rw [Nat.ble_eq]
theorem beq_iff {a b : Nat} : Nat.beq a b = true ↔ a = b := ⟨Nat.eq_of_beq_eq_true, fun h => by subst h; exact Nat.beq_refl a⟩

@[simp] theorem ob_some {α β : Type} (x : Option α) (f : α → Option β) (b : β) : ob x f = some b ↔ ∃ a, x = some a ∧ f a = some b := by
  cases x <;> simp [ob]
@[simp] theorem og_some {β : Type} (c : Bool) (x : Option β) (b : β) : og c x = some b ↔ c = true ∧ x = some b := by
  cases c <;> simp [og]
@[simp] theorem bc_true {α : Type} (f t : α) : bc f t true = t := rfl
@[simp] theorem bc_false {α : Type} (f t : α) : bc f t false = f := rfl
@[simp] theorem oc_none {α β : Type} (n : β) (f : α → β) : oc n f none = n := rfl
@[simp] theorem oc_some {α β : Type} (n : β) (f : α → β) (a : α) : oc n f (some a) = f a := rfl


theorem nth_eq {α : Type} : ∀ (l : List α) (n : Nat), nth l n = l[n]?
  | [], n => by simp [nth]
  | a :: as, n => by
    show bc (nth as (Nat.sub n 1)) (some a) (Nat.beq n 0) = _
    rw [bc_eq, nth_eq as]
    cases n with
    | zero => simp
    | succ n => simp

theorem cellOf_eq (t : PT AV) (z : List AV) (n i : Nat) : cellOf t z n i = if i < n then (match t.get i with | some v => some v | none => z[i % z.length]?) else none := by
  unfold cellOf
  by_cases h : i < n
  · rw [if_pos h]
    have : Nat.ble (Nat.add i 1) n = true := ble_iff.2 h
    rw [this]
    cases ht : t.get i with
    | some v => rfl
    | none => simp only [oc_none, nth_eq]; rfl
  · rw [if_neg h]
    have : Nat.ble (Nat.add i 1) n = false := by
      rw [Bool.eq_false_iff]; intro hh; exact h (ble_iff.1 hh)
    rw [this]; rfl

theorem cellsFrom_spec (t : PT AV) (z : List AV) (n : Nat) : ∀ (k i : Nat) (vs : List AV), cellsFrom t z n k i = some vs →
    vs.length = k ∧ ∀ j v, vs[j]? = some v → cellOf t z n (i + j) = some v
  | 0, i, vs, h => by simp [cellsFrom] at h; subst h; simp
  | k + 1, i, vs, h => by
    simp only [cellsFrom, ob_some] at h
    obtain ⟨v, hv, ws, hws, he⟩ := h
    injection he with he; subst he
    obtain ⟨h1, h2⟩ := cellsFrom_spec t z n k _ ws hws
    refine ⟨by simp [h1], fun j u hj => ?_⟩
    cases j with
    | zero => simp at hj; subst hj; simpa using hv
    | succ j =>
      simp at hj
      have := h2 j u hj
      rwa [show Nat.add i 1 + j = i + (j + 1) by simp only [Nat.add_eq]; omega] at this

theorem get_putCells : ∀ (vs : List AV) (t : PT AV) (i j : Nat), (putCells vs t i).get j = if i ≤ j ∧ j < i + vs.length then vs[j - i]? else t.get j
  | [], t, i, j => by simp [putCells]; omega
  | v :: vs, t, i, j => by
    rw [putCells, get_putCells vs, PT.get_put]
    simp only [Nat.add_eq, List.length_cons]
    by_cases h1 : i = j
    · subst h1
      rw [if_neg (by omega), if_pos rfl, if_pos (by omega)]
      simp
    · by_cases h2 : i + 1 ≤ j ∧ j < i + 1 + vs.length
      · rw [if_pos h2, if_pos (by omega), show j - i = (j - (i + 1)) + 1 by omega]
        simp
      · rw [if_neg h2, if_neg h1, if_neg (by omega)]

theorem get_rowOf (vs : List AV) (j : Nat) : (rowOf vs).get j = vs[j]? := by
  rw [rowOf, get_putCells]
  by_cases h : j < vs.length
  · rw [if_pos (by omega)]; simp
  · rw [if_neg (by omega)]; simp; omega

theorem allOne_spec : ∀ {vs : List AV}, allOne vs = true → ∀ v ∈ vs, v.one = true
  | [], _, v, hv => by simp at hv
  | a :: as, h, v, hv => by
    rw [allOne, bc_eq] at h
    split at h
    · rename_i ha
      rcases List.mem_cons.1 hv with rfl | hv
      · exact ha
      · exact allOne_spec h v hv
    · simp at h

theorem eqInt_eq (a b : Int) : eqInt a b = decide (a = b) := by
  cases a <;> cases b <;> simp only [eqInt] <;> rw [Bool.eq_iff_iff] <;> simp <;> omega
theorem ltInt_eq (a b : Int) : ltInt a b = decide (a < b) := by
  cases a <;> cases b <;> simp only [ltInt] <;> rw [Bool.eq_iff_iff] <;> simp [Nat.ble_eq] <;> omega
theorem leInt_eq (a b : Int) : leInt a b = decide (a ≤ b) := by
  rw [leInt, ltInt_eq, Bool.eq_iff_iff]; simp
theorem eqKind_eq (a b : IntKind) : eqKind a b = decide (a = b) := rfl

theorem wrapSmall (k : IntKind) (m : Nat) (h : m ≤ 127) : IntKind.wrap k (m : Int) = m := by
  have e : (m : Int) % (2 ^ k.bits : Int) = m := by
    apply Int.emod_eq_of_lt (by omega)
    cases k <;> simp [IntKind.bits] <;> omega
  simp only [IntKind.wrap, e]
  rw [if_neg]
  cases k <;> simp [IntKind.signed, IntKind.bits] <;> omega
theorem wrap_eq (k : IntKind) (n : Int) : wrap k n = IntKind.wrap k n := by
  cases n with
  | ofNat m =>
    rw [wrap, bc_eq]
    split
    · rename_i h; exact (wrapSmall k m (ble_iff.1 h)).symm
    · rfl
  | negSucc m => rfl
theorem i64_wrap (n : Int) : IntKind.wrap .i64 n = if (9223372036854775808 : Int) ≤ n % 18446744073709551616 then n % 18446744073709551616 - 18446744073709551616 else n % 18446744073709551616 := by
  simp [IntKind.wrap, IntKind.bits, IntKind.signed]
theorem wrap64_eq (n : Int) : wrap64 n = IntKind.wrap .i64 n := by
  cases n with
  | ofNat m =>
    rw [wrap64, bc_eq]
    split
    · rename_i h
      have h := ble_iff.1 h
      show (m : Int) = IntKind.wrap .i64 (m : Int)
      rw [i64_wrap]; split <;> omega
    · rfl
  | negSucc m =>
    rw [wrap64, bc_eq]
    split
    · rename_i h
      have h := ble_iff.1 h
      rw [i64_wrap, Int.negSucc_eq]; split <;> omega
    · rfl
theorem wrapA_eq (k : IntKind) (n : Int) : wrapA k n = IntKind.wrap k n := by
  cases k <;> simp [wrapA, wrap_eq, wrap64_eq]

end
end Go.Ev
