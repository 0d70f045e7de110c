/- RaceSwap returns true for every bool and every list of picks, whatever memory it lies in, and leaves the list and all other memory as they were. Conditions: none. -/
import Derived.Test.YtmnfaoodanikcaaGreatRunB
import Derived.Test.YtmnfaoodanikcaaGreatEvPicks
import Derived.Test.YtmnfaoodanikcaaGreatSwT00
import Derived.Test.YtmnfaoodanikcaaGreatSwT10
import Derived.Test.YtmnfaoodanikcaaGreatSwT11
import Derived.Test.YtmnfaoodanikcaaGreatSwT20
import Derived.Test.YtmnfaoodanikcaaGreatSwT21
import Derived.Test.YtmnfaoodanikcaaGreatSwF00
import Derived.Test.YtmnfaoodanikcaaGreatSwF10
import Derived.Test.YtmnfaoodanikcaaGreatSwF11
import Derived.Test.YtmnfaoodanikcaaGreatSwF20
import Derived.Test.YtmnfaoodanikcaaGreatSwF21
open Go.Ev
namespace Go.Proofs.YtmnfaoodanikcaaGreat
open Go.ChangeShapes Go.WideShapes Go.ChangeAt Go.RowKit

theorem own : ownKnob Tryz.prog.godebug = none := by kernel_rfl
theorem cells3 : Tryz.prog.cellsOf 3 = 1 := by kernel_rfl
theorem laid : laidOutB Tryz.prog = true := by kernel_rfl

theorem sw00 (b : Bool) : Ev.isTrue (run (envR 0 0) 1000000 (.call 3 [.bool b, .opq 0] .nil 0)) = true := by
  cases b
  · exact swF00
  · exact swT00
theorem sw10 (b : Bool) : Ev.isTrue (run (envR 1 0) 1000000 (.call 3 [.bool b, .opq 0] .nil 0)) = true := by
  cases b
  · exact swF10
  · exact swT10
theorem sw11 (b : Bool) : Ev.isTrue (run (envR 1 1) 1000000 (.call 3 [.bool b, .opq 0] .nil 0)) = true := by
  cases b
  · exact swF11
  · exact swT11
theorem sw20 (b : Bool) : Ev.isTrue (run (envR 2 0) 1000000 (.call 3 [.bool b, .opq 0] .nil 0)) = true := by
  cases b
  · exact swF20
  · exact swT20
theorem sw21 (b : Bool) : Ev.isTrue (run (envR 2 1) 1000000 (.call 3 [.bool b, .opq 0] .nil 0)) = true := by
  cases b
  · exact swF21
  · exact swT21
theorem sw_calls {W : World} {b : Bool} {v : Value} {q : Option Addr} {len cap : Nat} {xs : Nat → Int} (hv : v = .slice q len cap) (hK : ∀ W', Fr (fun k => W.heap.size ≤ k) W W' → picksK q len cap xs v W') :
    Calls Tryz.prog 3 #[.bool b, v] W fun e W' => e = .returned (.bool true) ∧ Fr (fun k => W.heap.size ≤ k) W W' := by
  have go : ∀ {m d : Nat}, ((m = 0 ∧ len = 0) ∨ (m = 1 ∧ len = 1) ∨ (m = 2 ∧ 2 ≤ len)) → (0 < len → (IntKind.wrap .u64 (xs 0)).tmod 2 = (d : Int)) → isTrue (run (envR m d) 1000000 (.call 3 [.bool b, .opq 0] .nil 0)) = true →
      Calls Tryz.prog 3 #[.bool b, v] W fun e W' => e = .returned (.bool true) ∧ Fr (fun k => W.heap.size ≤ k) W W' := fun hc hd hr =>
    calls_true (K := picksK q len cap xs) envR_ok (sumR_ok hc hd) hr (fun _ => v) (.cons _ _ _ _ (.bool b) (.cons _ _ _ _ (.opq 0) .nil)) W hK
  match len, hv with
  | 0, _ => exact go (m := 0) (d := 0) (.inl ⟨rfl, rfl⟩) (fun h => absurd h (by omega)) (sw00 b)
  | 1, _ =>
    rcases parity (xs 0) with h | h
    · exact go (m := 1) (d := 0) (.inr (.inl ⟨rfl, rfl⟩)) (fun _ => h) (sw10 b)
    · exact go (m := 1) (d := 1) (.inr (.inl ⟨rfl, rfl⟩)) (fun _ => h) (sw11 b)
  | n + 2, _ =>
    rcases parity (xs 0) with h | h
    · exact go (m := 2) (d := 0) (.inr (.inr ⟨rfl, by omega⟩)) (fun _ => h) (sw20 b)
    · exact go (m := 2) (d := 1) (.inr (.inr ⟨rfl, by omega⟩)) (fun _ => h) (sw21 b)

set_option maxRecDepth 100000 in
theorem sw_lifted (os : Os) (started : os.Started) (H : Type) (enc : TypeId × Value → H) :
    ReturnsInHanded {} Tryz.checked os 3 .any (Rows.raceSwapSpec.pre6 enc Tryz.prog Tryz.f3 Rows.raceSwapRow.domain false) (Rows.raceSwapSpec.post enc Tryz.prog Tryz.f3 false true false false) := by
  refine returnsInHanded_of_change (C := Tryz.checked) own started (by kernel_rfl) Tryz.func3
    (ChangeSpec.witness6 (enc := enc) (C := Tryz.checked) false ⟨#[], #[.bool true, .slice none 0 0], []⟩ 8 (by kernel_rfl) (by kernel_rfl) (by kernel_rfl) (by kernel_rfl)) ?_
  intro W base args ds gs before hval0 hW hcnd _
  have hval : ∀ (j : Nat) t v, Tryz.f3.params[j]? = some t → args[j]? = some v → Value.okWide Tryz.prog W .any base t v := hval0
  obtain ⟨p, qq, hA0, hV, rfl, hfz, hnd⟩ := id hW
  have hA : DataW.TrodAll enc Tryz.prog W 0 (fun _ => true) true Tryz.f3.params.toList args.toList ds p := hA0
  rw [Tryz.params3] at hA hval
  obtain ⟨v0, v1, d0, d1, p0, p1, rfl, rfl, rfl, h0, h1⟩ := trodAll_two hA
  obtain ⟨b, rfl, rfl, rfl⟩ := open_bool Tryz.underlying4 (hval 0 4 v0 rfl rfl) h0
  obtain ⟨q, len, cap, xs, hv, hK⟩ := open_picks Tryz.underlying22 Tryz.underlying3 cells3 (hval 1 22 v1 rfl rfl) h1
  refine (sw_calls hv hK).mono fun e W' ⟨he, hw⟩ => ⟨.bool true, he, ?_⟩
  exact law_post (P := Tryz.prog) laid (by rw [Tryz.params3]; intro t ht; simp at ht; rcases ht with rfl | rfl <;> exact ⟨by kernel_rfl, by decide +kernel⟩) rfl (by kernel_rfl) Tryz.underlying4 hW ⟨rfl, rfl, rfl⟩ hw.below

theorem race_swap : Rows.RaceSwapSaid :=
  OpenClaim.holds_of_wide 3 Tryz.f3 rfl rfl rfl rfl rfl rfl rfl ⟨rfl, rfl, rfl, rfl, rfl⟩ rfl rfl rfl rfl rfl (by kernel_rfl) Tryz.func3 (by kernel_rfl)
    (of_decide_eq_true (by kernel_rfl)) (by unfold Func.isWrapper; first | (rw [if_pos (by decide +kernel)]; kernel_rfl) | (rw [if_neg (by decide +kernel)]; exact ⟨rfl, rfl⟩))
    (fun os started H enc _ => sw_lifted os started H enc)
end Go.Proofs.YtmnfaoodanikcaaGreat
