/- Walks: the law on messages as bytes. -/
import Derived.Test.YtpdjgbpmlckepaaGreatDoorLLaw15
import Derived.Test.YtpdjgbpmlckepaaGreatDoorLEncA
set_option linter.unusedSimpArgs false
set_option linter.unusedVariables false
set_option maxHeartbeats 4000000
set_option maxRecDepth 4000
namespace Go.Ab.Tryz
open Go Go.Ab Go.Proofs
attribute [local irreducible] W Wl Wop TrA WSeq WLoopS FPost DPost RPost WRound DK onEnd
variable {n0 : Nat} {w0 : World} {gl : Nat → List AV} {H : List AO}
attribute [local simp] belowL_bytesAV belowL_strs

/-- Whether a message is short. -/
def Msg.Few (m : Msg) : Prop := m.cls.length ≤ 50 ∧ m.fro.length ≤ 300 ∧ (m.to.length ≤ 10 ∨ m.to.length = 101) ∧ m.body.length ≤ 1000
theorem few15_e (m : Msg) (hm : m.Small) : AEnter (env n0 w0 gl) 30 [.agg m.av] H (fun y H' => y = .ret (.bool (tf m.Few)) ∧ H' = H) := by
  obtain ⟨id, cls, fro, to, at_, body⟩ := m
  simp only [Msg.av, Msg.Few]
  refine enter (md := fun _ => 0) Tryz.func30 (fun hfit hgl => ?_)
  repeat' (first | refine go ?_ | (refine br (fun hc => ?_) (fun hc => ?_) <;> try (exfalso; omega)) | fail)
  all_goals first
    | (rw [tf_false (p := cls.length ≤ 50 ∧ fro.length ≤ 300 ∧ (to.length ≤ 10 ∨ to.length = 101) ∧ body.length ≤ 1000) (fun h => by omega)]; exact .junkd ⟨rfl, rfl⟩)
    | (rw [show tf (cls.length ≤ 50 ∧ fro.length ≤ 300 ∧ (to.length ≤ 10 ∨ to.length = 101) ∧ body.length ≤ 1000) = decide ((body.length : Int) ≤ 1000) from by
        by_cases h5 : body.length ≤ 1000
        · rw [tf_true (by omega), decide_eq_true (by omega)]
        · rw [tf_false (by omega), decide_eq_false (by omega)]]
       exact .junkd ⟨rfl, rfl⟩)

end Go.Ab.Tryz
