/- One class of the picks. -/
import Derived.Test.YtmnfaoodanikcaaGreatRunA
open Go.Ev
namespace Go.Proofs.YtmnfaoodanikcaaGreat
set_option maxRecDepth 1000000
theorem swT20 : isTrue (run (envR 2 0) 1000000 (.call 3 [.bool true, .opq 0] .nil 0)) = true := by decide +kernel
end Go.Proofs.YtmnfaoodanikcaaGreat
