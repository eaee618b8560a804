/- Walks: a prefix cut off. -/
import Derived.Test.YtpdjgbpmlckepaaDoorLStr
set_option linter.unusedSimpArgs false
set_option linter.unusedVariables false
set_option maxHeartbeats 4000000
set_option maxRecDepth 4000
namespace Go.Ab.Tryd
open Go Go.Ab Go.Proofs
attribute [local irreducible] W Wl Wop TrA WSeq WLoopS FPost DPost RPost WRound DK onEnd
variable {n0 : Nat} {w0 : World} {gl : Nat → List AV} {H : List AO}

instance litePrefix_t (s p : List UInt8) : Ctr (env n0 w0 gl) 137 [.str s, .str p] H (s.length ≤ 1000000000 ∧ p.length ≤ 100) (.bool (decide (p.length ≤ s.length ∧ s.take p.length = p))) H := .of fun ⟨hs, hp⟩ => by
  by_cases h1 : p.length ≤ s.length
  · by_cases h2 : s.take p.length = p
    · rw [decide_eq_true ⟨h1, h2⟩]
      have hh := h2
      refine enter (md := fun _ => 0) Tryd.func137 (fun hfit hgl => ?_)
      repeat' (first | refine go ?_ | (refine br (fun hc => ?_) (fun hc => ?_) <;> try (exfalso; omega)) | fail)
      all_goals first
        | exact .now ⟨rfl, rfl⟩
        | (refine .now ⟨?_, rfl⟩; simp [h2])
    · rw [decide_eq_false fun h => h2 h.2]
      have hh := h2
      refine enter (md := fun _ => 0) Tryd.func137 (fun hfit hgl => ?_)
      repeat' (first | refine go ?_ | (refine br (fun hc => ?_) (fun hc => ?_) <;> try (exfalso; omega)) | fail)
      all_goals first
        | exact .now ⟨rfl, rfl⟩
        | (refine .now ⟨?_, rfl⟩; simp [h2])
  · rw [decide_eq_false fun h => h1 h.1]
    refine enter (md := fun _ => 0) Tryd.func137 (fun hfit hgl => ?_)
    repeat' (first | refine go ?_ | (refine br (fun hc => ?_) (fun hc => ?_) <;> try (exfalso; omega)) | fail)
    all_goals exact .now ⟨rfl, rfl⟩
/-- What a cut of a prefix answers. -/
def prefR (p s : List UInt8) : Option (List UInt8) := if p.length ≤ s.length ∧ s.take p.length = p then some (s.drop p.length) else none
def prefV (p s : List UInt8) : AV := match prefR p s with
  | some r => .tup [.str r, .bool true]
  | none => .tup [.str s, .bool false]
instance litePref_t (s p : List UInt8) : Ctr (env n0 w0 gl) 100 [.str s, .str p] H (s.length ≤ 1000000000 ∧ p.length ≤ 100) (prefV p s) H := .of fun ⟨hs, hp⟩ => by
  unfold prefV prefR
  by_cases h1 : p.length ≤ s.length ∧ s.take p.length = p
  · rw [if_pos h1]
    have h2 := h1.1
    have hh := decide_eq_true h1
    refine enter (md := fun _ => 0) Tryd.func100 (fun hfit hgl => ?_)
    repeat' (first | refine go ?_ | (refine br (fun hc => ?_) (fun hc => ?_) <;> try (exfalso; omega)) | fail)
    all_goals exact .now ⟨rfl, rfl⟩
  · rw [if_neg h1]
    have hh := decide_eq_false h1
    refine enter (md := fun _ => 0) Tryd.func100 (fun hfit hgl => ?_)
    repeat' (first | refine go ?_ | (refine br (fun hc => ?_) (fun hc => ?_) <;> try (exfalso; omega)) | fail)
    all_goals exact .now ⟨rfl, rfl⟩
instance pref_t (s p : List UInt8) : Ctr (env n0 w0 gl) 52 [.str s, .str p] H (s.length ≤ 1000000000 ∧ p.length ≤ 100) (prefV p s) H := .of fun ⟨hs, hp⟩ => by
  have hc := fun H => litePref_t (n0 := n0) (w0 := w0) (gl := gl) (H := H) s p
  unfold prefV at hc ⊢
  rcases hh : prefR p s with _ | r <;> simp only [hh] at hc ⊢
  all_goals
    refine enter (md := fun _ => 0) Tryd.func52 (fun hfit hgl => ?_)
    repeat' (first | refine go ?_ | (refine br (fun hc => ?_) (fun hc => ?_) <;> try (exfalso; omega)) | fail)
    exact .now ⟨rfl, rfl⟩

end Go.Ab.Tryd
