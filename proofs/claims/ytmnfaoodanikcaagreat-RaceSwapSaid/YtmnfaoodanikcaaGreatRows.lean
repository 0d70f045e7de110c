/-
  No cell of these rows narrows 'for every input' (looked for: loops, veiled, ifaces, maps, wideKeys, modest, calm, conditions, laid).
  DERIVED. THE GIVEN ROWS OF THIS SEAT. 5 by the template 'for every input the law returns true; each argument reads behind the call as it read before'; 0 by the template 'total and deterministic' (their statements: YtmnfaoodanikcaaGreatTotals.lean).
  GIVEN WITH THE SEED: the statements are not yours to turn. If you find one false, say at which input.
  Laid BY PROGRAM, IN A SANDBOX (cutbox-rows.mjs): the forced cells as the released guide's own fill.sh prints them over the translation fc775f8dcf26fd43… (all of the seat's roots in one cut). By AI agents, Wed Nov 11 2026. No macro, syntax, notation, axiom, sorry.
-/
import Derived.Test.YtmnfaoodanikcaaGreatChecked
import GoSem.Claim
import GoSem.ClaimJoined
import GoSem.ClaimMapViews
import Derived.JoinedTies
import Derived.KernelRfl
namespace Go.Proofs.YtmnfaoodanikcaaGreat
/- THE CELL 'sum', in the pinned program and in every row, IS THE sha256 OF THE DUMP (.gsa) THAT YtmnfaoodanikcaaGreatProg.lean LOADS. Nothing in Lean hashes anything: it is a label: what it is worth is what the hold of that sum in a sandbox is worth. -/
noncomputable def Tryz.pinned : Pinned := { name := "ytmnfaoodanikcaagreat", sum := "fc775f8dcf26fd43979455bcfcd30a686e3da4e607b3efaa40522d9de47c40c9", checked := Tryz.checked }
namespace Rows
def none {H : Type} : Left H := { results := [], args := [] }

/-- 'concourselaw22.RaceSwap': WHATEVER THE INPUT: true; the input reads as it did. -/
def raceSwapSpec : ChangeSpec := { name := "raceSwap", fn := fun _ => fun
  | [d1, d2] => { results := [.lit (.bool true)], args := [d1, d2] }
  | _ => none }
def raceSwapRow : OpenClaim := { program := "ytmnfaoodanikcaagreat", sum := "fc775f8dcf26fd43979455bcfcd30a686e3da4e607b3efaa40522d9de47c40c9", func := "concourse/concourselaw22.RaceSwap", spec := "raceSwap", unfollowed := true, recurses := true, apart := false }
def RaceSwapSaid : Prop := raceSwapRow.holds Tryz.pinned (OpenSpec.ofChange raceSwapSpec)

/-- ITS FALSE NEIGHBOUR: 'it returns false'. Refute it at one input. -/
def raceSwapWrong : ChangeSpec := { name := "raceSwap", fn := fun _ => fun
  | [d1, d2] => { results := [.lit (.bool false)], args := [d1, d2] }
  | _ => none }
def RaceSwapWrongFalsely : Prop := raceSwapRow.holds Tryz.pinned (OpenSpec.ofChange raceSwapWrong)

/-- 'concourselaw22.RaceUp': WHATEVER THE INPUT: true; the input reads as it did. -/
def raceUpSpec : ChangeSpec := { name := "raceUp", fn := fun _ => fun
  | [d] => { results := [.lit (.bool true)], args := [d] }
  | _ => none }
def raceUpRow : OpenClaim := { program := "ytmnfaoodanikcaagreat", sum := "fc775f8dcf26fd43979455bcfcd30a686e3da4e607b3efaa40522d9de47c40c9", func := "concourse/concourselaw22.RaceUp", spec := "raceUp", unfollowed := true, recurses := true, apart := false }
def RaceUpSaid : Prop := raceUpRow.holds Tryz.pinned (OpenSpec.ofChange raceUpSpec)

/-- ITS FALSE NEIGHBOUR: 'it returns false'. Refute it at one input. -/
def raceUpWrong : ChangeSpec := { name := "raceUp", fn := fun _ => fun
  | [d] => { results := [.lit (.bool false)], args := [d] }
  | _ => none }
def RaceUpWrongFalsely : Prop := raceUpRow.holds Tryz.pinned (OpenSpec.ofChange raceUpWrong)

/-- 'concourselaw22.MemfsApart': WHATEVER THE INPUT: true; the input reads as it did. -/
def memfsApartSpec : ChangeSpec := { name := "memfsApart", fn := fun _ => fun
  | [d1, d2, d3, d4] => { results := [.lit (.bool true)], args := [d1, d2, d3, d4] }
  | _ => none }
def memfsApartRow : OpenClaim := { program := "ytmnfaoodanikcaagreat", sum := "fc775f8dcf26fd43979455bcfcd30a686e3da4e607b3efaa40522d9de47c40c9", func := "concourse/concourselaw22.MemfsApart", spec := "memfsApart", unfollowed := true, recurses := true, apart := false }
def MemfsApartSaid : Prop := memfsApartRow.holds Tryz.pinned (OpenSpec.ofChange memfsApartSpec)

/-- ITS FALSE NEIGHBOUR: 'it returns false'. Refute it at one input. -/
def memfsApartWrong : ChangeSpec := { name := "memfsApart", fn := fun _ => fun
  | [d1, d2, d3, d4] => { results := [.lit (.bool false)], args := [d1, d2, d3, d4] }
  | _ => none }
def MemfsApartWrongFalsely : Prop := memfsApartRow.holds Tryz.pinned (OpenSpec.ofChange memfsApartWrong)

/-- 'concourselaw22.MemfsTraces': WHATEVER THE INPUT: true; the input reads as it did. -/
def memfsTracesSpec : ChangeSpec := { name := "memfsTraces", fn := fun _ => fun
  | [d1, d2] => { results := [.lit (.bool true)], args := [d1, d2] }
  | _ => none }
def memfsTracesRow : OpenClaim := { program := "ytmnfaoodanikcaagreat", sum := "fc775f8dcf26fd43979455bcfcd30a686e3da4e607b3efaa40522d9de47c40c9", func := "concourse/concourselaw22.MemfsTraces", spec := "memfsTraces", unfollowed := true, recurses := true, apart := false }
def MemfsTracesSaid : Prop := memfsTracesRow.holds Tryz.pinned (OpenSpec.ofChange memfsTracesSpec)

/-- ITS FALSE NEIGHBOUR: 'it returns false'. Refute it at one input. -/
def memfsTracesWrong : ChangeSpec := { name := "memfsTraces", fn := fun _ => fun
  | [d1, d2] => { results := [.lit (.bool false)], args := [d1, d2] }
  | _ => none }
def MemfsTracesWrongFalsely : Prop := memfsTracesRow.holds Tryz.pinned (OpenSpec.ofChange memfsTracesWrong)

/-- 'concourselaw22.MemfsLooks': WHATEVER THE INPUT: true; the input reads as it did. -/
def memfsLooksSpec : ChangeSpec := { name := "memfsLooks", fn := fun _ => fun
  | [d1, d2, d3] => { results := [.lit (.bool true)], args := [d1, d2, d3] }
  | _ => none }
def memfsLooksRow : OpenClaim := { program := "ytmnfaoodanikcaagreat", sum := "fc775f8dcf26fd43979455bcfcd30a686e3da4e607b3efaa40522d9de47c40c9", func := "concourse/concourselaw22.MemfsLooks", spec := "memfsLooks", unfollowed := true, recurses := true, apart := false }
def MemfsLooksSaid : Prop := memfsLooksRow.holds Tryz.pinned (OpenSpec.ofChange memfsLooksSpec)

/-- ITS FALSE NEIGHBOUR: 'it returns false'. Refute it at one input. -/
def memfsLooksWrong : ChangeSpec := { name := "memfsLooks", fn := fun _ => fun
  | [d1, d2, d3] => { results := [.lit (.bool false)], args := [d1, d2, d3] }
  | _ => none }
def MemfsLooksWrongFalsely : Prop := memfsLooksRow.holds Tryz.pinned (OpenSpec.ofChange memfsLooksWrong)

/- THE SECOND FORM. 'bulk': how many values and letters a reading holds, each counted each time it is reached (what is shared counts as often as it is met; a slice's spare places count too). A statement '..UptoSaid' is the law's where the arguments, and the package variables that the reading takes, are together of bulk at most 1048576: NARROWER than '..Said'. Prove '..Said' where nothing that the law and all that it calls make is longer than what came in: it says more and counts as full. Else prove '..UptoSaid'. A law counts once. -/
mutual
def uptoBulk {H : Type} : DataW H → Nat
  | .lit (.string bytes) => bytes.length + 1
  | .lit _ => 1
  | .nil => 1
  | .ptr d => uptoBulk d + 1
  | .slice elems spare => uptoBulkAll elems + uptoBulkAll spare + 1
  | .agg parts => uptoBulkAll parts + 1
  | .iface _ d => uptoBulk d + 1
  | .map entries => uptoBulkEntries entries + 1
  | .held _ => 1
def uptoBulkAll {H : Type} : List (DataW H) → Nat
  | [] => 0
  | d :: r => uptoBulk d + uptoBulkAll r
def uptoBulkEntries {H : Type} : List (Lit × DataW H) → Nat
  | [] => 0
  | x :: r => uptoBulkEntry x + uptoBulkEntries r
def uptoBulkEntry {H : Type} : Lit × DataW H → Nat
  | (.string bytes, d) => bytes.length + uptoBulk d + 1
  | (_, d) => uptoBulk d + 1
 end
def uptoSmall : (H : Type) → List (DataW H) → Bool := fun _ ds => decide (uptoBulkAll ds ≤ 1048576)
def OpenSpec.upto (s : _root_.Go.ChangeSpec) : _root_.Go.OpenSpec := { _root_.Go.OpenSpec.ofChange s with cond := some uptoSmall }

/-- 'concourselaw22.RaceSwap', WHERE WHAT IT READS IS OF BULK AT MOST 1048576: true; the input reads as it did. -/
def raceSwapUptoRow : OpenClaim := { program := "ytmnfaoodanikcaagreat", sum := "fc775f8dcf26fd43979455bcfcd30a686e3da4e607b3efaa40522d9de47c40c9", func := "concourse/concourselaw22.RaceSwap", spec := "raceSwap", unfollowed := true, recurses := true, apart := false, narrowed := true }
def RaceSwapUptoSaid : Prop := raceSwapUptoRow.holds Tryz.pinned (OpenSpec.upto raceSwapSpec)

/-- 'concourselaw22.RaceUp', WHERE WHAT IT READS IS OF BULK AT MOST 1048576: true; the input reads as it did. -/
def raceUpUptoRow : OpenClaim := { program := "ytmnfaoodanikcaagreat", sum := "fc775f8dcf26fd43979455bcfcd30a686e3da4e607b3efaa40522d9de47c40c9", func := "concourse/concourselaw22.RaceUp", spec := "raceUp", unfollowed := true, recurses := true, apart := false, narrowed := true }
def RaceUpUptoSaid : Prop := raceUpUptoRow.holds Tryz.pinned (OpenSpec.upto raceUpSpec)

/-- 'concourselaw22.MemfsApart', WHERE WHAT IT READS IS OF BULK AT MOST 1048576: true; the input reads as it did. -/
def memfsApartUptoRow : OpenClaim := { program := "ytmnfaoodanikcaagreat", sum := "fc775f8dcf26fd43979455bcfcd30a686e3da4e607b3efaa40522d9de47c40c9", func := "concourse/concourselaw22.MemfsApart", spec := "memfsApart", unfollowed := true, recurses := true, apart := false, narrowed := true }
def MemfsApartUptoSaid : Prop := memfsApartUptoRow.holds Tryz.pinned (OpenSpec.upto memfsApartSpec)

/-- 'concourselaw22.MemfsTraces', WHERE WHAT IT READS IS OF BULK AT MOST 1048576: true; the input reads as it did. -/
def memfsTracesUptoRow : OpenClaim := { program := "ytmnfaoodanikcaagreat", sum := "fc775f8dcf26fd43979455bcfcd30a686e3da4e607b3efaa40522d9de47c40c9", func := "concourse/concourselaw22.MemfsTraces", spec := "memfsTraces", unfollowed := true, recurses := true, apart := false, narrowed := true }
def MemfsTracesUptoSaid : Prop := memfsTracesUptoRow.holds Tryz.pinned (OpenSpec.upto memfsTracesSpec)

/-- 'concourselaw22.MemfsLooks', WHERE WHAT IT READS IS OF BULK AT MOST 1048576: true; the input reads as it did. -/
def memfsLooksUptoRow : OpenClaim := { program := "ytmnfaoodanikcaagreat", sum := "fc775f8dcf26fd43979455bcfcd30a686e3da4e607b3efaa40522d9de47c40c9", func := "concourse/concourselaw22.MemfsLooks", spec := "memfsLooks", unfollowed := true, recurses := true, apart := false, narrowed := true }
def MemfsLooksUptoSaid : Prop := memfsLooksUptoRow.holds Tryz.pinned (OpenSpec.upto memfsLooksSpec)

end Rows
end Go.Proofs.YtmnfaoodanikcaaGreat
