/- Walks: the laws on entries. -/
import Derived.Test.YtpdjgbpmlckepaaDoorLTake2
import Derived.Test.YtpdjgbpmlckepaaDoorLPut
import Derived.Test.YtpdjgbpmlckepaaDoorLEntry
set_option linter.unusedSimpArgs false
set_option linter.unusedVariables false
set_option maxHeartbeats 4000000
set_option maxRecDepth 4000
namespace Go.Ab.Tryd
open Go Go.Ab Go.Proofs
attribute [local irreducible] W Wl Wop TrA WSeq WLoopS FPost DPost RPost WRound DK onEnd
variable {n0 : Nat} {w0 : World} {gl : Nat → List AV} {H : List AO}
attribute [local simp] belowL_bytesAV

theorem awake15_e [ht : Tab10 n0 w0] : AEnter (env n0 w0 gl) 9 [] H (fun y H' => y = .ret (.bool true) ∧ H' = H) := by
  have hpl : putL [[97, 98], []] = [50, 58, 97, 98, 44, 48, 58, 44] := by decide +kernel
  have hput : ∀ H tok, Ctr (env n0 w0 gl) 31 [.sl 2 [.sl 2 [.int .u8 97, .int .u8 98] .ro, .sl 0 [] .full] tok] H True (.sl 8 (bytesAV [50, 58, 97, 98, 44, 48, 58, 44]) .ro) H := fun H tok => ⟨fun _ => by
    have h0 : (putL (([([97, 98], .ro), ([], .full)] : Parts).map (·.1))) = [50, 58, 97, 98, 44, 48, 58, 44] := hpl
    have := (put_t (n0 := n0) (w0 := w0) (gl := gl) (H := H) [([97, 98], .ro), ([], .full)] tok).call ⟨by decide, by rw [h0]; decide⟩
    rw [h0] at this
    exact this⟩
  have hchk : tf (CheckOk [] [[97, 64, 98]] 0 0) = true := tf_true ⟨.inl rfl, by simp, by simp, by omega, by omega, fun i hi => by
    obtain rfl : i = 0 := by simp at hi; omega
    exact mail_ab⟩
  have hc : ∀ H, Ctr (env n0 w0 gl) 32 [.agg [.str [], .sl 1 [.str [97, 64, 98]] .full, .int .i64 0], .sl 0 [] .full] H True (.int .i64 0) H := fun H => ⟨fun _ => by
    have := (check_t (n0 := n0) (w0 := w0) (gl := gl) (H := H) [] [[97, 64, 98]] 0 [] 0 .full .full).call ⟨by decide, fun i hi => by
      obtain rfl : i = 0 := by simp only [List.length_cons, List.length_nil] at hi; omega
      decide, by decide⟩
    rw [hchk] at this
    exact this⟩
  refine enter (md := fun t => if t = 1 then 2 else 0) Tryd.func9 (fun hfit hgl => ?_)
  repeat' (first | refine go ?_ | (refine br (fun hc => ?_) (fun hc => ?_) <;> try (exfalso; omega)) | fail)
  exact .junkd ⟨rfl, rfl⟩
instance awake15_t [ht : Tab10 n0 w0] : Ctr (env n0 w0 gl) 9 [] H True (.bool true) H := .of fun _ => awake15_e

end Go.Ab.Tryd
