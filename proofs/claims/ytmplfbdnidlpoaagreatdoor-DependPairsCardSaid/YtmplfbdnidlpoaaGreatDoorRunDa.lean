/- The run of awake. -/
import Derived.Test.YtmplfbdnidlpoaaGreatDoorRunD
open Go Go.Ev
namespace Go.Proofs.YtmplfbdnidlpoaaGreatDoor
set_option maxRecDepth 1000000
theorem awake_t : isTrue (runF envI 1000000 (.call 18 [] .nil 0)) = true := by decide +kernel
end Go.Proofs.YtmplfbdnidlpoaaGreatDoor
