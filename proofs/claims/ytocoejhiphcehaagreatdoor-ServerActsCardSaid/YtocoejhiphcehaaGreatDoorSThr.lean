/- Plain laws: a session, what holds of it all the way. -/
import Derived.Test.YtocoejhiphcehaaGreatDoorLSrvC
set_option linter.unusedSimpArgs false
set_option linter.unusedVariables false
set_option maxHeartbeats 4000000
set_option maxRecDepth 10000
namespace Go.Ab.Tryz
open Go Go.Ab Go.Proofs

theorem cmd_state (s : Ses) (h : s.state ≤ 4) (x : List UInt8) : (cmdA s x).2.state ≤ 4 := by
  unfold cmdA rcptA
  have hc : s.clear.state ≤ 4 := by simp [Ses.clear]
  repeat' (first | exact h | exact hc | (show (4 : Int) ≤ 4; decide) | (show (3 : Int) ≤ 4; decide) | (show (2 : Int) ≤ 4; decide) | refine ite_prop (P := fun r : List UInt8 × Ses => r.2.state ≤ 4) (fun _ => ?_) (fun _ => ?_) | refine ite_prop (P := fun r : Ses => r.state ≤ 4) (fun _ => ?_) (fun _ => ?_))
theorem step_state {s s' : Ses} {o : List UInt8} (h : s.state ≤ 4) (hs : stepO s = some (o, s')) : s'.state ≤ 4 := by
  unfold stepO at hs
  split at hs
  · simp at hs
  · split at hs
    · split at hs
      · simp at hs
      · split at hs
        · simp only [Option.some.injEq, Prod.mk.injEq] at hs
          obtain ⟨_, rfl⟩ := hs; exact h
        · simp only [Option.some.injEq, Prod.mk.injEq] at hs
          obtain ⟨_, rfl⟩ := hs; simp [Ses.clear]
    · split at hs
      · simp at hs
      · rename_i x y hc
        simp only [Option.some.injEq] at hs
        have := cmd_state { s with kept := y } h x
        rw [hs] at this; exact this
theorem on_state (s : Ses) (h : s.state ≤ 4) : (onS s).2.state ≤ 4 := by
  induction hn : s.kept.length using Nat.strongRecOn generalizing s with
  | _ n ih =>
    cases hs : stepO s with
    | none => rw [onS_none hs]; exact h
    | some p =>
      obtain ⟨o, s'⟩ := p
      rw [onS_some hs]
      exact ih s'.kept.length (by have := (stepO_len hs).1; omega) s' (step_state h hs) rfl

theorem lim_on (s : Ses) (h : s.Lim) (hk : s.kept.length ≤ 1000000) : (onS s).2.Lim ∧ (onS s).1.length + 1100 * (onS s).2.kept.length ≤ 1100 * s.kept.length := by
  induction hn : s.kept.length using Nat.strongRecOn generalizing s with
  | _ n ih =>
    cases hs : stepO s with
    | none => rw [onS_none hs]; exact ⟨h, by simp [hn]⟩
    | some p =>
      obtain ⟨o, s'⟩ := p
      have h1 := stepO_len hs
      have h2 := lim_step h hk hs
      have h3 := ih s'.kept.length (by omega) s' h2.1 (by omega) rfl
      rw [onS_some hs]
      simp only [List.length_append]
      exact ⟨h3.1, by omega⟩
/-- What holds of a session that was made. -/
structure Ses.Good (s : Ses) : Prop where
  lim : s.Lim
  inv : s.Inv
  st : s.state ≤ 4
theorem good_on {s : Ses} (h : s.Good) (hk : s.kept.length ≤ 1000000) : (onS s).2.Good := ⟨(lim_on s h.lim hk).1, inv_on s h.inv, on_state s h.st⟩
theorem good_feed {s : Ses} (h : s.Good) (b : List UInt8) (hk : s.kept.length + b.length ≤ 1000000) : (feedS s b).2.Good ∧ (feedS s b).1.length + 1100 * (feedS s b).2.kept.length ≤ 1100 * (s.kept.length + b.length) + 1100 ∧ (feedS s b).2.kept.length ≤ s.kept.length + b.length := by
  have hi : (hiS s).length ≤ 1100 := by
    have := h.lim.host
    unfold hiS; split
    · simp
    · simp only [List.length_append, List.length_cons, List.length_nil]; omega
  unfold feedS
  split
  · exact ⟨h, by simp; omega, by simp⟩
  · have hg : ({ s with kept := s.kept ++ b, told := true } : Ses).Good := ⟨h.lim.kept _ _, inv_kept h.inv _ _, h.st⟩
    have h1 := lim_on { s with kept := s.kept ++ b, told := true } hg.lim (by simpa using hk)
    have h2 := onS_keeps { s with kept := s.kept ++ b, told := true }
    have h3 := h1.2
    simp only [List.length_append] at h3 h2 ⊢
    exact ⟨good_on hg (by simpa using hk), by omega, h2.1⟩
theorem good_clear {s : Ses} (h : s.Good) : s.clear.Good := ⟨h.lim.clear, inv_clear h.inv, by simp [Ses.clear]⟩
theorem reply_len (c : Int) : (replyS c).length ≤ 20 := by unfold replyS; split <;> (try split) <;> simp
theorem good_answer {s : Ses} (h : s.Good) (c : Int) (hk : s.kept.length ≤ 1000000) : (answerS s c).2.Good ∧ (answerS s c).1.length + 1100 * (answerS s c).2.kept.length ≤ 1100 * s.kept.length + 20 ∧ (answerS s c).2.kept.length ≤ s.kept.length := by
  unfold answerS
  split
  · exact ⟨h, by simp, by simp⟩
  · have h1 := lim_on s.clear (good_clear h).lim hk
    have h2 := onS_keeps s.clear
    have h3 := reply_len c
    have e : s.clear.kept = s.kept := rfl
    rw [e] at h1 h2
    refine ⟨good_on (good_clear h) hk, ?_, h2.1⟩
    simp only [List.length_append]; omega
theorem good_new (host : List UInt8) {rc sz : Int} (hh : host.length ≤ 1000) (hr : 1 ≤ rc ∧ rc ≤ 100) (hz : 1 ≤ sz ∧ sz ≤ 500000) : (newS host rc sz).Good :=
  ⟨⟨hh, ⟨by simp only [newS]; omega, by simp only [newS]; omega⟩, fun x hx => by simp [newS] at hx, by simp [newS], hr⟩, inv_new host (by omega), by simp [newS]⟩
theorem good_body {s : Ses} (h : s.Good) (hw : s.waits = true) : s.body.length ≤ 1000000 := by
  have h1 := (h.inv.wait hw).2
  have h2 := h.lim.sz.2
  omega
end Go.Ab.Tryz
