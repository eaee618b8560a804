/- Walks: entry's ground. -/
import Derived.Test.YtocoejhiphcehaaGreatDoorLMail
set_option linter.unusedSimpArgs false
set_option linter.unusedVariables false
set_option maxHeartbeats 2000000
set_option maxRecDepth 4000
namespace Go.Ab.Tryz
open Go Go.Ab Go.Proofs
attribute [local irreducible] W Wl Wop TrA WSeq WLoopS FPost DPost RPost WRound DK onEnd
variable {n0 : Nat} {w0 : World} {gl : Nat → List AV} {H : List AO}

/-- Whether a message may be. -/
def CheckOk (fro : List UInt8) (to : List (List UInt8)) (at_ : Int) (n : Nat) : Prop := (fro.length = 0 ∨ MailboxOk fro) ∧ 0 < to.length ∧ to.length ≤ 100 ∧ 0 ≤ at_ ∧ n ≤ 500000 ∧ ∀ i, i < to.length → MailboxOk (to.getD i [])

end Go.Ab.Tryz
