/- Walks: the laws on entries. -/
import Derived.Test.YtpdjgbpmlckepaaGreatDoorLTake2
import Derived.Test.YtpdjgbpmlckepaaGreatDoorLPut
import Derived.Test.YtpdjgbpmlckepaaGreatDoorLEntry
set_option linter.unusedSimpArgs false
set_option linter.unusedVariables false
set_option maxHeartbeats 4000000
set_option maxRecDepth 4000
namespace Go.Ab.Tryz
open Go Go.Ab Go.Proofs
attribute [local irreducible] W Wl Wop TrA WSeq WLoopS FPost DPost RPost WRound DK onEnd
variable {n0 : Nat} {w0 : World} {gl : Nat → List AV} {H : List AO}
attribute [local simp] belowL_bytesAV

end Go.Ab.Tryz
