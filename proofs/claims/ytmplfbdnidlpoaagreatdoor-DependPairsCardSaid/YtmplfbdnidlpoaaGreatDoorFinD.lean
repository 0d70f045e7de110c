/- DependPairs returns true for every number, whatever memory it is called in, and leaves all memory as it was. Conditions: none (the card ties the three listed tables of the library to the program's text). -/
import Derived.Test.YtmplfbdnidlpoaaGreatDoorRunDb
import Derived.Test.YtmplfbdnidlpoaaGreatDoorEvClose
import Derived.Test.YtmplfbdnidlpoaaGreatDoorPr0
import Derived.Test.YtmplfbdnidlpoaaGreatDoorPr1
import Derived.Test.YtmplfbdnidlpoaaGreatDoorPr2
import Derived.Test.YtmplfbdnidlpoaaGreatDoorPr3
import Derived.Test.YtmplfbdnidlpoaaGreatDoorPr4
import Derived.Test.YtmplfbdnidlpoaaGreatDoorPr5
import Derived.Test.YtmplfbdnidlpoaaGreatDoorPr6
import Derived.Test.YtmplfbdnidlpoaaGreatDoorPr7
import Derived.Test.YtmplfbdnidlpoaaGreatDoorCards
import Derived.Test.YtmplfbdnidlpoaaGreatDoorTie
import Derived.Deep.DeepHandedRow
import Derived.Lib.LaidTab
open Go Go.Ev
namespace Go.Proofs.YtmplfbdnidlpoaaGreatDoor
open Go.ChangeShapes Go.WideShapes Go.ChangeAt Go.RowKit

theorem own : ownKnob Tryz.prog.godebug = none := by kernel_rfl
theorem laidOut : laidOutB Tryz.prog = true := by kernel_rfl

theorem pair_class {k : Nat} (n : Int) (w : World) (hk : (IntKind.wrap .u64 n).tmod 8 = (k : Int)) (hr : isTrue (runF (envK k) 1000000 (.call 6 [.opq 0] .nil 0)) = true) :
    Calls Tryz.prog 6 #[.int .i64 n] w fun e w' => e = .returned (.bool true) ∧ Fr (fun k => w.heap.size ≤ k) w w' := by
  rw [runF_fun] at hr
  exact calls_true (K := pairK k) envK_ok envK_sum hr (fun j => if j = 0 then .int .i64 n else .int .u64 (IntKind.wrap .u64 n)) (.cons _ _ _ _ (.opq 0) .nil) w (fun _ _ => ⟨n, rfl, rfl, hk⟩)

theorem pair_calls (n : Int) (w : World) : Calls Tryz.prog 6 #[.int .i64 n] w fun e w' => e = .returned (.bool true) ∧ Fr (fun k => w.heap.size ≤ k) w w' := by
  have h0 : 0 ≤ IntKind.wrap .u64 n := by
    simp [IntKind.wrap, IntKind.signed, IntKind.bits]
    omega
  have h8 : (IntKind.wrap .u64 n).tmod 8 = (IntKind.wrap .u64 n) % 8 := Int.tmod_eq_emod_of_nonneg h0
  have hc : (IntKind.wrap .u64 n) % 8 = 0 ∨ (IntKind.wrap .u64 n) % 8 = 1 ∨ (IntKind.wrap .u64 n) % 8 = 2 ∨ (IntKind.wrap .u64 n) % 8 = 3 ∨ (IntKind.wrap .u64 n) % 8 = 4 ∨ (IntKind.wrap .u64 n) % 8 = 5 ∨ (IntKind.wrap .u64 n) % 8 = 6 ∨ (IntKind.wrap .u64 n) % 8 = 7 := by omega
  rcases hc with h | h | h | h | h | h | h | h <;> rw [h] at h8
  · exact pair_class n w h8 pr0
  · exact pair_class n w h8 pr1
  · exact pair_class n w h8 pr2
  · exact pair_class n w h8 pr3
  · exact pair_class n w h8 pr4
  · exact pair_class n w h8 pr5
  · exact pair_class n w h8 pr6
  · exact pair_class n w h8 pr7

set_option maxRecDepth 100000 in
theorem contract (H : Type) (enc : TypeId × Value → H) (W : World) (base : Nat) (args : Array Value) (ds gs : List (DataW H)) (before : List MemPlace)
    (hval0 : ∀ (j : Nat) t v, Tryz.f6.params[j]? = some t → args[j]? = some v → Value.okWide Tryz.prog W .any base t v)
    (hW : DataW.Whole enc Tryz.prog Tryz.f6.params.toList Rows.dependPairsSpec.vars false W args.toList ds gs before) :
    Calls Tryz.prog 6 args W fun e W' => ∃ v, e = .returned v ∧ Rows.dependPairsSpec.post enc Tryz.prog Tryz.f6 false true false false W args v W' := by
  have hval := hval0
  obtain ⟨p, q, hA0, hV, rfl, hfz, hnd⟩ := id hW
  have hA : DataW.TrodAll enc Tryz.prog W 0 (fun _ => true) true Tryz.f6.params.toList args.toList ds p := hA0
  rw [Tryz.params6] at hA hval
  obtain ⟨v0, d0, rfl, rfl, h0⟩ := trodAll_one hA
  obtain ⟨n, rfl, rfl, rfl, hn⟩ := open_int Tryz.underlying3 (hval 0 3 v0 rfl rfl) h0
  refine (pair_calls n W).mono fun e W' ⟨he, hw⟩ => ⟨.bool true, he, ?_⟩
  exact law_post (P := Tryz.prog) laidOut (by rw [Tryz.params6]; intro t ht; simp at ht; subst ht; exact ⟨by kernel_rfl, by decide +kernel⟩) rfl (by kernel_rfl) Tryz.underlying4 hW ⟨rfl, rfl, rfl⟩ hw.below

def setC (vs : Array Value) : Obj → Obj
  | .cells _ t frozen => .cells vs t frozen
  | o => o
def u8c (l : List Int) : Array Value := (l.map (Value.int .u8)).toArray
def u64c (l : List Int) : Array Value := (l.map (Value.int .u64)).toArray
def numOf : DataW Unit → Int
  | .lit (.int _ n) => n
  | _ => 0
def numsOf : DataW Unit → List Int
  | .agg ds => ds.map numOf
  | _ => []
/-- a world for the witness: the settled one, the three tables holding what their initialisers lay -/
noncomputable def laidWorld (os : Os) : World :=
  { World.holding Tryz.prog os ⟨#[], #[], []⟩ with heap := (((World.holding Tryz.prog os ⟨#[], #[], []⟩).heap.modify 1 (setC (u64c (numsOf Rows.laid_internal_strconv_uint64pow10)))).modify 2 (setC (u8c (numsOf Rows.laid_math_bits_deBruijn32tab)))).modify 3 (setC (u8c (numsOf Rows.laid_math_bits_deBruijn64tab))) }
theorem laid_met (os : Os) : laidMet Tryz.prog Rows.dependPairsRow.laid ((laidWorld os).forCall (fun _ _ => 0) ⟨#[], #[.int .i64 0], []⟩).memory :=
  laidMet_of_run' 8 (by kernel_rfl) (by kernel_rfl)
theorem reads (os : Os) {H : Type} (enc : TypeId × Value → H) : ∃ places, DataW.whole enc Tryz.prog ((laidWorld os).forCall (fun _ _ => 0) ⟨#[], #[.int .i64 0], []⟩).memory Tryz.f6.params.toList Rows.dependPairsSpec.vars false #[Value.int .i64 0].toList 8 = some ([.lit (.int .i64 0)], [], places) :=
  ⟨[], by kernel_rfl⟩

set_option maxRecDepth 100000 in
theorem lifted (os : Os) (started : os.Started) (H : Type) (enc : TypeId × Value → H) (F : Stop.Interp) :
    ReturnsInHanded {} Tryz.checked os 6 .any ((OpenSpec.ofChange Rows.dependPairsSpec).preRow enc Tryz.prog Tryz.f6 Rows.dependPairsRow.domain false Rows.dependPairsRow.laid) (((OpenSpec.ofChange Rows.dependPairsSpec).at F).post enc Tryz.prog Tryz.f6 false true false false) := by
  obtain ⟨places, hx⟩ := reads os enc
  refine returnsInHanded_of_row (C := Tryz.checked) (s := OpenSpec.ofChange Rows.dependPairsSpec) own started (by kernel_rfl) Tryz.func6
    (witness_row_at (enc := enc) (C := Tryz.checked) false (laidWorld os) #[.int .i64 0] rfl (by kernel_rfl) (by kernel_rfl) (by kernel_rfl)
      (OpenSpec.preRow_of_cond 8 hx (by kernel_rfl) (fun k hk => by cases hk) (by kernel_rfl) (laid_met os))) ?_
  intro W base args ds gs before hval hW _ _ _ hL _ _
  exact contract H enc W base args ds gs before hval hW

theorem said : Rows.DependPairsSaid :=
  OpenClaim.holds_of_cond 6 Tryz.f6 rfl rfl rfl rfl rfl rfl rfl ⟨rfl, rfl, rfl, rfl, rfl⟩ rfl rfl rfl rfl rfl (by kernel_rfl) Tryz.func6 (by kernel_rfl)
    (of_decide_eq_true (by kernel_rfl)) (by unfold Func.isWrapper; first | (rw [if_pos (by decide +kernel)]; kernel_rfl) | (rw [if_neg (by decide +kernel)]; exact ⟨rfl, rfl⟩))
    (fun os started H enc _ F => by rw [OpenClaim.pre_eq_preRow]; exact lifted os started H enc F)

/-- no parameter wants a stand-in; the program's own looks are off -/
theorem plainly (f : FuncId) (fn : Func) (hf : Tryz.pinned.checked.prog.funcNamed "concourse/concourselaw15.DependPairs" = some f) (hfn : Tryz.pinned.checked.prog.funcs[f]? = some fn) :
    true = Tryz.pinned.checked.prog.looks [] ∧ ∀ (j : Nat) t, fn.params[j]? = some t → Tryz.pinned.checked.prog.wantsStandIn t = false := by
  obtain rfl : f = 6 := Option.some.inj ((show Tryz.prog.funcNamed "concourse/concourselaw15.DependPairs" = some 6 by kernel_rfl).symm.trans hf) |>.symm
  obtain rfl : fn = Tryz.f6 := (Option.some.inj (Tryz.func6.symm.trans hfn)).symm
  refine ⟨by kernel_rfl, fun j t ht => ?_⟩
  rw [Tryz.params6] at ht
  obtain rfl : t = 3 := by simpa using Array.mem_of_getElem? ht
  exact (show Tryz.prog.wantsStandIn 3 = false by kernel_rfl)

theorem depend_pairs : Rows.DependPairsCardSaid :=
  Claim7.holds_tied_plain_at .later [] _ _ _ _ said (fun _ h => by cases h) (by kernel_rfl) (fun _ h => by cases h) dependPairs_row_tie rfl ⟨rfl, rfl⟩ (by kernel_rfl) rfl plainly (by kernel_rfl)
end Go.Proofs.YtmplfbdnidlpoaaGreatDoor
