/- One class of the number. -/
import Derived.Test.YtmplfbdnidlpoaaGreatDoorRunDb
open Go Go.Ev
namespace Go.Proofs.YtmplfbdnidlpoaaGreatDoor
set_option maxRecDepth 1000000
theorem pr7 : isTrue (runF (envK 7) 1000000 (.call 6 [.opq 0] .nil 0)) = true := by decide +kernel
end Go.Proofs.YtmplfbdnidlpoaaGreatDoor
