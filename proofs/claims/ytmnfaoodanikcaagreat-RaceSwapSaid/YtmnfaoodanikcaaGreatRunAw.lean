/- The run of awake. -/
import Derived.Test.YtmnfaoodanikcaaGreatTabG
import Derived.Test.YtmnfaoodanikcaaGreatEvSum
open Go.Ev
namespace Go.Proofs.YtmnfaoodanikcaaGreat
set_option maxRecDepth 1000000
theorem awake_t : isTrue (run env0 1000000 (.call 8 [] .nil 0)) = true := by decide +kernel
end Go.Proofs.YtmnfaoodanikcaaGreat
