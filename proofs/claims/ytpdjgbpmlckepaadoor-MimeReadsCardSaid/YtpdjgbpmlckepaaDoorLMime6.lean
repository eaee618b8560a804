/- Walks: mime.Read. -/
import Derived.Test.YtpdjgbpmlckepaaDoorLMime5
import Derived.Test.YtpdjgbpmlckepaaDoorSMime3
set_option linter.unusedSimpArgs false
set_option linter.unusedVariables false
set_option maxHeartbeats 4000000
set_option maxRecDepth 4000
namespace Go.Ab.Tryd
open Go Go.Ab Go.Proofs
attribute [local irreducible] W Wl Wop TrA WSeq WLoopS FPost DPost RPost WRound DK onEnd
attribute [local irreducible] rdTo rdBody rdFro rdN tkM restN RdHead repS chkE aheadS
attribute [local simp] belowL_bytesAV belowL_strsM belowL_appM
variable {n0 : Nat} {w0 : World} {gl : Nat → List AV} {H : List AO}

theorem mread_t [ht : Tab10 n0 w0] [hml : GLInt gl 0] [he : Errs n0 w0] (r : List UInt8) (hr : r.length ≤ 10000) : AEnter (env n0 w0 gl) 14 [.sl r.length (bytesAV r) .ro] H (fun y H' => y = .ret (mmV r) ∧ H' = H) := by
  have hp := mread1_t (n0 := n0) (w0 := w0) (gl := gl) (H := H) r hr
  refine enter (md := fun _ => 0) Tryd.func14 (fun hfit hgl => ?_)
  repeat' (first | refine go ?_ | (refine br (fun hc => ?_) (fun hc => ?_) <;> try (exfalso; omega)) | fail)
  ((with_reducible apply wop_call); (· rfl); (· rfl); (· (simp only [AAct.ev, List.getD_cons_zero, List.getD_cons_succ, constAV, env_gl]; try exact rfl)); (· (simp only [evCallArgs, List.map_cons, List.map_nil, List.nil_append, List.append_nil, List.cons_append, Array.toList, List.toList_toArray, AAct.ev, List.getD_cons_zero, List.getD_cons_succ, constAV, env_gl]; try exact rfl)))
  by_cases hR : ∃ a, RdOk r a
  · obtain ⟨a, ha⟩ := hR
    have hM := mmM_some (rd_mm ha (parseIntB_lo ha.2.1).2)
    have hV : mmV r = .tup [.agg [.str (rdFro r), .sl (rdTo r).length ((rdTo r).map .str) .ro, .int .i64 a], .sl (rdBody r a).length (bytesAV (rdBody r a)) .ro, .int .i64 0] := by unfold mmV; rw [hM]
    rw [hV]
    refine (mime_caught_t (R := fun x H' => x = .ret (.int .i64 0) ∧ H' = H ++ [.cells [.sl r.length (bytesAV r) .ro], .cells [.str (rdFro r), .sl (rdTo r).length ((rdTo r).map .str) .ro, .int .i64 a], .cells [.sl (rdBody r a).length (bytesAV (rdBody r a)) .ro], .cells [.int .i64 0]]) _ [] _ fun hf2 => ?_).call.mono ?_
    · simp only [List.append_assoc, List.cons_append, List.nil_append]
      refine hp.call.mono ?_
      rintro x H' (⟨a', h, rfl, rfl⟩ | ⟨h, _⟩)
      · have e := h.2.1
        rw [ha.2.1] at e
        injection e with e
        subst e
        exact ⟨by simp, .inl ⟨rfl, .now ⟨rfl, by simp⟩⟩⟩
      · exact absurd ha (h a)
    · rintro x H' ⟨rfl, rfl⟩
      repeat' (first | refine go ?_ | (refine br (fun hc => ?_) (fun hc => ?_) <;> try (exfalso; omega)) | fail)
      exact .junkd ⟨rfl, rfl⟩
  · have hM : mmM r = none := mmM_none fun m hm => hR ⟨_, (mm_rd hm).1⟩
    have hV : mmV r = .tup [.agg [.str [], .sl 0 [] .full, .int .i64 0], .sl 0 [] .full, .int .i64 110] := by unfold mmV; rw [hM]
    rw [hV]
    refine (mime_caught_t (R := fun x H' => x = .ret (.int .i64 110) ∧ ∃ x1 x2 x3 x4 z, H' = H ++ .cells [.sl r.length (bytesAV r) .ro] :: .cells [x1, x2, x3] :: .cells [x4] :: .cells [.int .i64 110] :: z) _ [] _ fun hf2 => ?_).call.mono ?_
    · simp only [List.append_assoc, List.cons_append, List.nil_append]
      refine hp.call.mono ?_
      rintro x H' (⟨a, h, _⟩ | ⟨_, rfl, x1, x2, x3, x4, z, rfl⟩)
      · exact absurd ⟨a, h⟩ hR
      · exact ⟨by simp, .inr ⟨110, rfl, .now ⟨rfl, x1, x2, x3, x4, z, by simp⟩⟩⟩
    · rintro x H' ⟨rfl, x1, x2, x3, x4, z, rfl⟩
      repeat' (first | refine go ?_ | (refine br (fun hc => ?_) (fun hc => ?_) <;> try (exfalso; omega)) | fail)
      exact .junkd ⟨rfl, rfl⟩

end Go.Ab.Tryd
