/- One class of the picks. -/
import Derived.Test.YtmnfaoodanikcaaGreatRunA
open Go.Ev
namespace Go.Proofs.YtmnfaoodanikcaaGreat
set_option maxRecDepth 1000000
theorem swT11 : isTrue (run (envR 1 1) 1000000 (.call 3 [.bool true, .opq 0] .nil 0)) = true := by decide +kernel
end Go.Proofs.YtmnfaoodanikcaaGreat
