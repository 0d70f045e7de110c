/- RaceUp returns true for every list of picks, whatever memory it lies in, and leaves the list and all other memory as they were. Conditions: none. -/
import Derived.Test.YtmnfaoodanikcaaGreatRunB
import Derived.Test.YtmnfaoodanikcaaGreatEvPicks
import Derived.Test.YtmnfaoodanikcaaGreatUp00
import Derived.Test.YtmnfaoodanikcaaGreatUp10
import Derived.Test.YtmnfaoodanikcaaGreatUp11
import Derived.Test.YtmnfaoodanikcaaGreatUp20
import Derived.Test.YtmnfaoodanikcaaGreatUp21
open Go.Ev
namespace Go.Proofs.YtmnfaoodanikcaaGreat
open Go.ChangeShapes Go.WideShapes Go.ChangeAt Go.RowKit

theorem own : ownKnob Tryz.prog.godebug = none := by kernel_rfl
theorem cells3 : Tryz.prog.cellsOf 3 = 1 := by kernel_rfl
theorem laid : laidOutB Tryz.prog = true := by kernel_rfl

theorem up_calls {W : World} {v : Value} {q : Option Addr} {len cap : Nat} {xs : Nat → Int} (hv : v = .slice q len cap) (hK : ∀ W', Fr (fun k => W.heap.size ≤ k) W W' → picksK q len cap xs v W') :
    Calls Tryz.prog 4 #[v] W fun e W' => e = .returned (.bool true) ∧ Fr (fun k => W.heap.size ≤ k) W W' := by
  have go : ∀ {m d : Nat}, ((m = 0 ∧ len = 0) ∨ (m = 1 ∧ len = 1) ∨ (m = 2 ∧ 2 ≤ len)) → (0 < len → (IntKind.wrap .u64 (xs 0)).tmod 2 = (d : Int)) → isTrue (run (envR m d) 1000000 (.call 4 [.opq 0] .nil 0)) = true →
      Calls Tryz.prog 4 #[v] W fun e W' => e = .returned (.bool true) ∧ Fr (fun k => W.heap.size ≤ k) W W' := fun hc hd hr =>
    calls_true (K := picksK q len cap xs) envR_ok (sumR_ok hc hd) hr (fun _ => v) (.cons _ _ _ _ (.opq 0) .nil) W hK
  match len, hv with
  | 0, _ => exact go (m := 0) (d := 0) (.inl ⟨rfl, rfl⟩) (fun h => absurd h (by omega)) up00
  | 1, _ =>
    rcases parity (xs 0) with h | h
    · exact go (m := 1) (d := 0) (.inr (.inl ⟨rfl, rfl⟩)) (fun _ => h) up10
    · exact go (m := 1) (d := 1) (.inr (.inl ⟨rfl, rfl⟩)) (fun _ => h) up11
  | n + 2, _ =>
    rcases parity (xs 0) with h | h
    · exact go (m := 2) (d := 0) (.inr (.inr ⟨rfl, by omega⟩)) (fun _ => h) up20
    · exact go (m := 2) (d := 1) (.inr (.inr ⟨rfl, by omega⟩)) (fun _ => h) up21

set_option maxRecDepth 100000 in
theorem up_lifted (os : Os) (started : os.Started) (H : Type) (enc : TypeId × Value → H) :
    ReturnsInHanded {} Tryz.checked os 4 .any (Rows.raceUpSpec.pre6 enc Tryz.prog Tryz.f4 Rows.raceUpRow.domain false) (Rows.raceUpSpec.post enc Tryz.prog Tryz.f4 false true false false) := by
  refine returnsInHanded_of_change (C := Tryz.checked) own started (by kernel_rfl) Tryz.func4
    (ChangeSpec.witness6 (enc := enc) (C := Tryz.checked) false ⟨#[], #[.slice none 0 0], []⟩ 8 (by kernel_rfl) (by kernel_rfl) (by kernel_rfl) (by kernel_rfl)) ?_
  intro W base args ds gs before hval0 hW hcnd _
  have hval : ∀ (j : Nat) t v, Tryz.f4.params[j]? = some t → args[j]? = some v → Value.okWide Tryz.prog W .any base t v := hval0
  obtain ⟨p, qq, hA0, hV, rfl, hfz, hnd⟩ := id hW
  have hA : DataW.TrodAll enc Tryz.prog W 0 (fun _ => true) true Tryz.f4.params.toList args.toList ds p := hA0
  rw [Tryz.params4] at hA hval
  obtain ⟨v0, d0, rfl, rfl, h0⟩ := trodAll_one hA
  obtain ⟨q, len, cap, xs, hv, hK⟩ := open_picks Tryz.underlying22 Tryz.underlying3 cells3 (hval 0 22 v0 rfl rfl) h0
  refine (up_calls hv hK).mono fun e W' ⟨he, hw⟩ => ⟨.bool true, he, ?_⟩
  exact law_post (P := Tryz.prog) laid (by rw [Tryz.params4]; intro t ht; simp at ht; subst ht; exact ⟨by kernel_rfl, by decide +kernel⟩) rfl (by kernel_rfl) Tryz.underlying4 hW ⟨rfl, rfl, rfl⟩ hw.below

theorem race_up : Rows.RaceUpSaid :=
  OpenClaim.holds_of_wide 4 Tryz.f4 rfl rfl rfl rfl rfl rfl rfl ⟨rfl, rfl, rfl, rfl, rfl⟩ rfl rfl rfl rfl rfl (by kernel_rfl) Tryz.func4 (by kernel_rfl)
    (of_decide_eq_true (by kernel_rfl)) (by unfold Func.isWrapper; first | (rw [if_pos (by decide +kernel)]; kernel_rfl) | (rw [if_neg (by decide +kernel)]; exact ⟨rfl, rfl⟩))
    (fun os started H enc _ => up_lifted os started H enc)
end Go.Proofs.YtmnfaoodanikcaaGreat
