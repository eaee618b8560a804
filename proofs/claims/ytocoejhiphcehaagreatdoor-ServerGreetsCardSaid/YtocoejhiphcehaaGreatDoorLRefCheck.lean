/- Walks: the reference's envelopes and checks. -/
import Derived.Test.YtocoejhiphcehaaGreatDoorLRef07
import Derived.Test.YtocoejhiphcehaaGreatDoorLEntry
set_option linter.unusedSimpArgs false
set_option linter.unusedVariables false
set_option maxHeartbeats 4000000
set_option maxRecDepth 4000
namespace Go.Ab.Tryz
open Go Go.Ab Go.Proofs
attribute [local irreducible] W Wl Wop TrA WSeq WLoopS FPost DPost RPost WRound DK onEnd
variable {n0 : Nat} {w0 : World} {gl : Nat → List AV} {H : List AO}

def EnvOk (fro : List UInt8) (to : List (List UInt8)) (at_ : Int) : Prop := (fro.length = 0 ∨ MailboxOk fro) ∧ 0 < to.length ∧ 0 ≤ at_ ∧ ∀ i, i < to.length → MailboxOk (to.getD i [])

instance envelope_t (fro : List UInt8) (to : List (List UInt8)) (at_ : Int) (tok : Tok) : Ctr (env n0 w0 gl) 21 [.agg [.str fro, .sl to.length (to.map .str) tok, .int .i64 at_]] H (fro.length ≤ 9223372036854775807 ∧
    (∀ i, i < to.length → (to.getD i []).length ≤ 9223372036854775807) ∧ to.length ≤ 9223372036854775807) (.bool (tf (EnvOk fro to at_))) H := .of fun ⟨hfro, hto, hl⟩ => by
  refine enter (md := fun _ => 0) Tryz.func21 (fun hfit hgl => ?_)
  repeat' (first | refine go ?_ | (refine br (fun hc => ?_) (fun hc => ?_) <;> try (exfalso; omega)) | fail)
  all_goals try (refine .junkd ⟨?_, rfl⟩; rw [tf_false (p := EnvOk fro to at_) (by rintro ⟨h1, h2, h3, h4⟩; first | omega | exact h1.elim (fun h => by omega) (fun h => tf_not_iff.1 (by assumption) h))]; done)
  all_goals
    have hF : fro.length = 0 ∨ MailboxOk fro := by first | (left; omega) | (right; exact tf_iff.1 (by assumption))
    refine loop0 (fun i : Nat => (.top :: .top :: .top :: .top :: .top :: .top :: .top :: .top :: .top :: .top :: .top :: .top :: .top :: .top :: .top :: .top :: .top :: .top :: .top :: .top :: .top :: .top :: .top :: .top :: .top :: .top :: .sl to.length (to.map .str) tok :: .int .i64 to.length :: .int .i64 (i : Int) :: .top :: .top :: .top :: .top :: .top :: .top :: .top :: [])) (fun i => i ≤ to.length ∧ ∀ k, k < i → MailboxOk (to.getD k [])) (fun i => to.length - i) 0 ⟨Nat.zero_le _, fun k h => absurd h (Nat.not_lt_zero _)⟩ ?_
    rintro i ⟨hi, hall⟩
    have hti := hto i
    repeat' (first | refine go ?_ | (refine br (fun hc => ?_) (fun hc => ?_) <;> try (exfalso; omega)) | fail)
    all_goals first
      | (refine again (i + 1) ⟨by omega, fun k hk => ?_⟩
         rcases Nat.lt_succ_iff_lt_or_eq.1 hk with h | h
         · exact hall k h
         · subst h; exact tf_iff.1 (by assumption))
      | (refine .junkd ⟨?_, rfl⟩
         first
           | rw [tf_true (p := EnvOk fro to at_) ⟨hF, by omega, by omega, fun k hk => hall k (by omega)⟩]
           | rw [tf_false (p := EnvOk fro to at_) (by rintro ⟨h1, h2, h3, h4⟩; exact tf_not_iff.1 (by assumption) (h4 i (by omega)))])

end Go.Ab.Tryz
