/- Walks: the law on any bytes read as a message. -/
import Derived.Test.YtpdjgbpmlckepaaDoorLLaw15
import Derived.Test.YtpdjgbpmlckepaaDoorLDec5
set_option linter.unusedSimpArgs false
set_option linter.unusedVariables false
set_option maxHeartbeats 4000000
set_option maxRecDepth 4000
namespace Go.Ab.Tryd
open Go Go.Ab Go.Proofs
attribute [local irreducible] W Wl Wop TrA WSeq WLoopS FPost DPost RPost WRound DK onEnd
attribute [local simp] belowL_bytesAV belowL_strsM belowL_appM
variable {n0 : Nat} {w0 : World} {gl : Nat → List AV} {H : List AO}

theorem sameEnv15_e (fro : List UInt8) (to : List (List UInt8)) (at_ : Int) (htl : to.length ≤ 9223372036854775807) : AEnter (env n0 w0 gl) 16 [.agg [.str fro, .sl to.length (to.map .str) .ro, .int .i64 at_], .agg [.str fro, .sl to.length (to.map .str) .ro, .int .i64 at_]] H (fun y H' => y = .ret (.bool true) ∧ H' = H) := by
  refine enter (md := fun _ => 0) Tryd.func16 (fun hfit hgl => ?_)
  repeat' (first | refine go ?_ | (refine br (fun hc => ?_) (fun hc => ?_) <;> try (exfalso; omega)) | fail)
  refine loop0 (fun i : Nat => (.top :: .top :: .ref H.length 0 :: .ref (H.length + 1) 0 :: .bool false :: .top :: .top :: .top :: .top :: .top :: .top :: .top :: .top :: .top :: .top :: .top :: .top :: .top :: .top :: .top :: .top :: .top :: .top :: .top :: .top :: .top :: .top :: .top :: .top :: .int .i64 to.length :: .int .i64 (i : Int) :: .top :: .top :: .top :: .top :: .top :: .top :: .top :: .top :: .top :: .top :: .top :: .top :: .top :: .top :: [])) (fun i => i ≤ to.length) (fun i => to.length - i) 0 (Nat.zero_le _) ?_
  intro i hi
  by_cases hlt : i < to.length
  · repeat' (first | refine go ?_ | (refine br (fun hc => ?_) (fun hc => ?_) <;> try (exfalso; omega)) | fail)
    exact again (i + 1) (by omega)
  · repeat' (first | refine go ?_ | (refine br (fun hc => ?_) (fun hc => ?_) <;> try (exfalso; omega)) | fail)
    exact .junkd ⟨rfl, rfl⟩
theorem sameEnv15_nil : AEnter (env n0 w0 gl) 16 [.agg [.str [], .sl 0 [] .full, .int .i64 0], .agg [.str [], .sl 0 [] .full, .int .i64 0]] H (fun y H' => y = .ret (.bool true) ∧ H' = H) := by
  refine enter (md := fun _ => 0) Tryd.func16 (fun hfit hgl => ?_)
  repeat' (first | refine go ?_ | (refine br (fun hc => ?_) (fun hc => ?_) <;> try (exfalso; omega)) | fail)
  refine loop0 (fun i : Nat => (.top :: .top :: .ref H.length 0 :: .ref (H.length + 1) 0 :: .bool false :: .top :: .top :: .top :: .top :: .top :: .top :: .top :: .top :: .top :: .top :: .top :: .top :: .top :: .top :: .top :: .top :: .top :: .top :: .top :: .top :: .top :: .top :: .top :: .top :: .int .i64 0 :: .int .i64 (i : Int) :: .top :: .top :: .top :: .top :: .top :: .top :: .top :: .top :: .top :: .top :: .top :: .top :: .top :: .top :: [])) (fun i => i = 0) (fun i => 0) 0 rfl ?_
  intro i hi
  subst hi
  repeat' (first | refine go ?_ | (refine br (fun hc => ?_) (fun hc => ?_) <;> try (exfalso; omega)) | fail)
  exact .junkd ⟨rfl, rfl⟩
theorem sameMsg_e (m : Msg) (hm : m.Small) : AEnter (env n0 w0 gl) 12 [.agg m.av, .agg m.av] H (fun y H' => y = .ret (.bool true) ∧ H' = H) := by
  obtain ⟨id, cls, fro, to, at_, body⟩ := m
  have h1 : ∀ H, Ctr (env n0 w0 gl) 16 [.agg [.str fro, .sl to.length (to.map .str) .ro, .int .i64 at_], .agg [.str fro, .sl to.length (to.map .str) .ro, .int .i64 at_]] H True (.bool true) H := fun H => .of fun _ => sameEnv15_e fro to at_ hm.2.2.2.1
  simp only [Msg.av]
  refine enter (md := fun _ => 0) Tryd.func12 (fun hfit hgl => ?_)
  repeat' (first | refine go ?_ | (refine br (fun hc => ?_) (fun hc => ?_) <;> try (exfalso; omega)) | fail)
  exact .junkd ⟨rfl, rfl⟩
theorem sameMsg_nil : AEnter (env n0 w0 gl) 12 [.agg [.int .i64 0, .str [], .str [], .sl 0 [] .full, .int .i64 0, .sl 0 [] .full], .agg [.int .i64 0, .str [], .str [], .sl 0 [] .full, .int .i64 0, .sl 0 [] .full]] H (fun y H' => y = .ret (.bool true) ∧ H' = H) := by
  have h1 : ∀ H, Ctr (env n0 w0 gl) 16 [.agg [.str [], .sl 0 [] .full, .int .i64 0], .agg [.str [], .sl 0 [] .full, .int .i64 0]] H True (.bool true) H := fun H => .of fun _ => sameEnv15_nil
  refine enter (md := fun _ => 0) Tryd.func12 (fun hfit hgl => ?_)
  repeat' (first | refine go ?_ | (refine br (fun hc => ?_) (fun hc => ?_) <;> try (exfalso; omega)) | fail)
  exact .junkd ⟨rfl, rfl⟩

theorem entryDecodes_t [ht : Tab10 n0 w0] [he : Errs n0 w0] (b : List UInt8) (hb : b.length ≤ 9223372036854775807) : AEnter (env n0 w0 gl) 3 [.sl b.length (bytesAV b) .ro] H (fun y H' => y = .ret (.bool true) ∧ H' = H) := by
  by_cases h3 : b.length ≤ 3000
  · have h1 : ∀ H, Ctr (env n0 w0 gl) 10 [.sl b.length (bytesAV b) .ro] H True (decV b) H := fun H => .of fun _ => decode_t b (by omega)
    have h2 : ∀ H, Ctr (env n0 w0 gl) 11 [.sl b.length (bytesAV b) .ro] H True (decV b) H := fun H => .of fun _ => rdecode_t b (by omega)
    unfold decV at h1 h2
    rcases hm : decM b with _ | m
    · rw [hm] at h1 h2
      simp only at h1 h2
      have hS : ∀ H, Ctr (env n0 w0 gl) 12 [.agg [.int .i64 0, .str [], .str [], .sl 0 [] .full, .int .i64 0, .sl 0 [] .full], .agg [.int .i64 0, .str [], .str [], .sl 0 [] .full, .int .i64 0, .sl 0 [] .full]] H True (.bool true) H := fun H => .of fun _ => sameMsg_nil
      refine enter (md := fun _ => 0) Tryd.func3 (fun hfit hgl => ?_)
      repeat' (first | refine go ?_ | (refine br (fun hc => ?_) (fun hc => ?_) <;> try (exfalso; omega)) | fail)
      all_goals exact .junkd ⟨rfl, rfl⟩
    · rw [hm] at h1 h2
      simp only at h1 h2
      have hS : ∀ H, Ctr (env n0 w0 gl) 12 [.agg m.av, .agg m.av] H True (.bool true) H := fun H => .of fun _ => sameMsg_e m (decM_of hm).1
      obtain ⟨id, cls, fro, to, at_, body⟩ := m
      simp only [Msg.av] at h1 h2 hS
      refine enter (md := fun _ => 0) Tryd.func3 (fun hfit hgl => ?_)
      repeat' (first | refine go ?_ | (refine br (fun hc => ?_) (fun hc => ?_) <;> try (exfalso; omega)) | fail)
      all_goals exact .junkd ⟨rfl, rfl⟩
  · refine enter (md := fun _ => 0) Tryd.func3 (fun hfit hgl => ?_)
    repeat' (first | refine go ?_ | (refine br (fun hc => ?_) (fun hc => ?_) <;> try (exfalso; omega)) | fail)
    all_goals exact .now ⟨rfl, rfl⟩

end Go.Ab.Tryd
