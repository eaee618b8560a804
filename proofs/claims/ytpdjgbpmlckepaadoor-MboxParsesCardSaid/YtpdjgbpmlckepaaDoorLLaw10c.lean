/- Walks: the law on mailbox files that any bytes are. -/
import Derived.Test.YtpdjgbpmlckepaaDoorLLaw10b
import Derived.Test.YtpdjgbpmlckepaaDoorLMbox11
set_option linter.unusedSimpArgs false
set_option linter.unusedVariables false
set_option maxHeartbeats 4000000
set_option maxRecDepth 4000
namespace Go.Ab.Tryd
open Go Go.Ab Go.Proofs
attribute [local irreducible] W Wl Wop TrA WSeq WLoopS FPost DPost RPost WRound DK onEnd
attribute [local simp] belowL_bytesAV belowL_ltrAV
variable {n0 : Nat} {w0 : World} {gl : Nat → List AV} {H : List AO}

theorem same10_nil : AEnter (env n0 w0 gl) 22 [.sl 0 [] .full, .sl 0 [] .full] H (fun y H' => y = .ret (.bool true) ∧ H' = H) := by
  refine enter (md := fun _ => 0) Tryd.func22 (fun hfit hgl => ?_)
  repeat' (first | refine go ?_ | (refine br (fun hc => ?_) (fun hc => ?_) <;> try (exfalso; omega)) | fail)
  refine loop0 (fun i : Nat => (.sl 0 [] .full :: .sl 0 [] .full :: .top :: .top :: .bool false :: .top :: .top :: .top :: .top :: .top :: .top :: .top :: .int .i64 0 :: .int .i64 (i : Int) :: .top :: .top :: .top :: .top :: .top :: .top :: .top :: .top :: .top :: .top :: .top :: .top :: .top :: .top :: .top :: .top :: .top :: .top :: .top :: .top :: .top :: .top :: .top :: .top :: .top :: .top :: .top :: .top :: .top :: .top :: .top :: .top :: .top :: .top :: .top :: .top :: .top :: .top :: .top :: .top :: .top :: .top :: [])) (fun i => i = 0) (fun i => 0) 0 rfl ?_
  intro i hi
  subst hi
  repeat' (first | refine go ?_ | (refine br (fun hc => ?_) (fun hc => ?_) <;> try (exfalso; omega)) | fail)
  exact .now ⟨rfl, rfl⟩
theorem mboxParses_t [ht : Tab10 n0 w0] [he : Errs n0 w0] (b : List UInt8) (hb : b.length ≤ 9223372036854775807) : AEnter (env n0 w0 gl) 6 [.sl b.length (bytesAV b) .ro] H (fun y H' => y = .ret (.bool true) ∧ H' = H) := by
  by_cases h2 : b.length ≤ 2000
  · have h1 : ∀ H, Ctr (env n0 w0 gl) 20 [.sl b.length (bytesAV b) .ro] H True (mreadV b) H := fun H => .of fun _ => mparse_t b (by omega)
    have h3 : ∀ H, Ctr (env n0 w0 gl) 21 [.sl b.length (bytesAV b) .ro] H True (mreadV b) H := fun H => .of fun _ => rparse_t b (by omega)
    unfold mreadV at h1 h3
    rcases hm : mreadR b with _ | l
    · rw [hm] at h1 h3
      simp only at h1 h3
      have hS : ∀ H, Ctr (env n0 w0 gl) 22 [.sl 0 [] .full, .sl 0 [] .full] H True (.bool true) H := fun H => .of fun _ => same10_nil
      refine enter (md := fun _ => 0) Tryd.func6 (fun hfit hgl => ?_)
      repeat' (first | refine go ?_ | (refine br (fun hc => ?_) (fun hc => ?_) <;> try (exfalso; omega)) | fail)
      all_goals exact .now ⟨rfl, rfl⟩
    · rw [hm] at h1 h3
      simp only at h1 h3
      obtain ⟨hk, _⟩ := mreadR_of hm
      have hcount : l.length ≤ b.length := by
        have h4 := hm
        unfold mreadR at h4
        cases hp : mparseR b.length b with
        | none => rw [hp] at h4; simp at h4
        | some l' =>
          rw [hp] at h4
          simp only at h4
          split at h4
          · injection h4 with h4
            subst h4
            exact mparseR_count _ _ _ hp
          · simp at h4
      have hS : ∀ H, Ctr (env n0 w0 gl) 22 [.sl l.length (ltrAV l) .ro, .sl l.length (ltrAV l) .ro] H True (.bool true) H := fun H => .of fun _ => same10_e l .ro (.inl rfl) (by omega) (fun x hx => by
        have := hk x hx
        exact ⟨by omega, by omega, by have := this.1.2.1; omega, this.2.1⟩)
      refine enter (md := fun _ => 0) Tryd.func6 (fun hfit hgl => ?_)
      repeat' (first | refine go ?_ | (refine br (fun hc => ?_) (fun hc => ?_) <;> try (exfalso; omega)) | fail)
      all_goals exact .now ⟨rfl, rfl⟩
  · refine enter (md := fun _ => 0) Tryd.func6 (fun hfit hgl => ?_)
    repeat' (first | refine go ?_ | (refine br (fun hc => ?_) (fun hc => ?_) <;> try (exfalso; omega)) | fail)
    all_goals exact .now ⟨rfl, rfl⟩

end Go.Ab.Tryd
