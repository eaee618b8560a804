/- Walks: head.Show. -/
import Derived.Test.YtbncpinpfmfjiaaDoorLHead8
set_option linter.unusedSimpArgs false
set_option linter.unusedVariables false
set_option maxHeartbeats 2000000
set_option maxRecDepth 4000
namespace Go.Ab.Tryd
open Go Go.Ab Go.Proofs
attribute [local irreducible] W Wl Wop TrA WSeq WLoopS FPost DPost RPost WRound DK onEnd
variable {n0 : Nat} {w0 : World} {gl : Nat → List AV} {H : List AO}
attribute [local simp] belowL_bytesAV

def showV : List UInt8 ⊕ Int → AV
  | .inl s => .tup [.sl s.length (bytesAV s) .ro, .int .i64 0]
  | .inr e => .tup [.sl 0 [] .full, .int .i64 e]
theorem showR_e {l : Flds} {e : Int} (h : showR l = .inr e) : e ≠ 0 := by
  unfold showR at h
  split at h
  · split at h
    · simp at h
    · simp only [Sum.inr.injEq] at h; omega
  · simp only [Sum.inr.injEq] at h; omega

instance show_t (l : Flds) : Ctr (env n0 w0 gl) 59 [.sl l.length (fldAV l) .ro] H (l.length ≤ 9223372036854775807 ∧ ∀ i, i < l.length → (l.getD i ([], [])).1.length + (l.getD i ([], [])).2.length ≤ 1000000) (showV (showR l)) H := .of fun ⟨hl, hb⟩ => by
  have hp := show1_t (n0 := n0) (w0 := w0) (gl := gl) (H := H) l hl hb
  refine enter (md := fun _ => 0) Tryd.func59 (fun hfit hgl => ?_)
  repeat' (first | refine go ?_ | (refine br (fun hc => ?_) (fun hc => ?_) <;> try (exfalso; omega)) | fail)
  ((with_reducible apply wop_call); (· rfl); (· rfl); (· (simp only [AAct.ev, List.getD_cons_zero, List.getD_cons_succ, constAV, env_gl]; try exact rfl)); (· (simp only [evCallArgs, List.map_cons, List.map_nil, List.nil_append, List.append_nil, List.cons_append, Array.toList, List.toList_toArray, AAct.ev, List.getD_cons_zero, List.getD_cons_succ, constAV, env_gl]; try exact rfl)))
  rcases hq : showR l with s | e
  · rw [hq] at hp
    refine (head_caught_t (R := fun x H' => x = .ret (.int .i64 0) ∧ H' = H ++ [.cells [.sl l.length (fldAV l) .ro], .cells [.vsl (H.length + 3) s.length], .cells [.int .i64 0], .vec 1 s.length (bytesAV s)]) _ [] _ fun hf2 => ?_).call.mono ?_
    · simp only [List.append_assoc, List.cons_append, List.nil_append]
      refine hp.call.mono ?_
      rintro x H' ⟨rfl, rfl⟩
      exact ⟨by simp, .inl ⟨rfl, .now ⟨rfl, by simp⟩⟩⟩
    · rintro x H' ⟨rfl, rfl⟩
      refine gos ?_
      refine wseq_shift (Shift.cellKnow (H.length + 1) 0 (H.length + 3) (xs := [.vsl (H.length + 3) s.length]) (sz := 1) (n := s.length) (ys := bytesAV s) (by simp [getE]) rfl (by simp) (by simp [getE]) rfl) ?_
      simp only [getE, setE, List.set_cons_succ, List.set_cons_zero]
      repeat' (first | refine go ?_ | (refine br (fun hc => ?_) (fun hc => ?_) <;> try (exfalso; omega)) | fail)
      exact .junkd ⟨rfl, rfl⟩
  · rw [hq] at hp
    have he := showR_e hq
    refine (head_caught_t (R := fun x H' => x = .ret (.int .i64 e) ∧ ∃ x z, H' = H ++ .cells [.sl l.length (fldAV l) .ro] :: .cells [x] :: .cells [.int .i64 e] :: z) _ [] _ fun hf2 => ?_).call.mono ?_
    · simp only [List.append_assoc, List.cons_append, List.nil_append]
      refine hp.call.mono ?_
      rintro x H' ⟨rfl, y, z, rfl⟩
      refine ⟨by simp, .inr ⟨e, rfl, ?_⟩⟩
      exact .now ⟨rfl, y, z, by simp⟩
    · rintro x H' ⟨rfl, y, z, rfl⟩
      repeat' (first | refine go ?_ | (refine br (fun hc => ?_) (fun hc => ?_) <;> try (exfalso; omega)) | fail)
      exact .junkd ⟨rfl, rfl⟩

end Go.Ab.Tryd
