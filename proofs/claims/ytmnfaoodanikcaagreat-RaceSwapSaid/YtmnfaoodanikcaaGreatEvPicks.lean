/- An argument that is a list of numbers: opened. -/
import Derived.Test.YtmnfaoodanikcaaGreatEvClose
import Derived.Test.YtmnfaoodanikcaaGreatEvRace6
namespace Go.Ev
noncomputable section
open Go.RowKit Go.WideShapes Go.ChangeShapes

section
variable {H : Type} {enc : TypeId × Value → H} {P : Program}

theorem add_block (a : Addr) (k : Nat) : (a.add k).block = a.block := by
  unfold Addr.add; split <;> rfl

theorem open_picks {ts ti base : Nat} (hts : P.underlying ts = some (.slice ti)) (hti : P.underlying ti = some (.int .i64)) (hc : P.cellsOf ti = 1) {W : World} {v : Value} {d : DataW H} {ps : List MemPlace}
    (hval : Value.okWide P W .any base ts v) (h : DataW.Trod enc P W 0 (fun _ => true) true ts v d ps) :
    ∃ q len cap xs, v = .slice q len cap ∧ ∀ W', Fr (fun k => W.heap.size ≤ k) W W' → picksK q len cap xs v W' := by
  obtain ⟨a0, len, cap, rfl⟩ := okWide_slice hts hval
  obtain ⟨fuel, hf⟩ := h
  rcases open_ints hts hti hc hf with ⟨hcs, hx⟩ | ⟨a, len', cap', zs, hcs, _, hl, hm, hz, hx, hcell, hwz⟩
  · simp [Value.cells] at hcs
    obtain ⟨rfl, rfl, rfl⟩ := hcs
    exact ⟨none, 0, 0, fun _ => 0, rfl, fun W' _ => ⟨rfl, fun k hk => absurd hk (by omega)⟩⟩
  · simp [Value.cells] at hcs
    obtain ⟨rfl, rfl, rfl⟩ := hcs
    simp only [if_true] at hz
    refine ⟨some a, len, cap, fun k => zs.getD k 0, rfl, fun W' hw => ⟨rfl, fun k hk => ⟨a, rfl, ?_⟩⟩⟩
    have h1 := hcell k (by omega)
    have hlt : (a.add k).block < W.heap.size := by
      rcases Nat.lt_or_ge (a.add k).block W.heap.size with hh | hh
      · exact hh
      · simp [World.cell?, Array.getElem?_eq_none hh] at h1
    rw [← h1]
    exact (Fr.below hw).cell hlt

theorem parity (x : Int) : (IntKind.wrap .u64 x).tmod 2 = ((0 : Nat) : Int) ∨ (IntKind.wrap .u64 x).tmod 2 = ((1 : Nat) : Int) := by
  have : 0 ≤ IntKind.wrap .u64 x := by
    simp [IntKind.wrap, IntKind.signed, IntKind.bits]
    omega
  rw [Int.tmod_eq_emod_of_nonneg this]
  omega
end
end
end Go.Ev
