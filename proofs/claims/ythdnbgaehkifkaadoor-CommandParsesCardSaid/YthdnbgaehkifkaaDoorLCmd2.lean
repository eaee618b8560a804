/- Walks: what stands behind a verb. -/
import Derived.Test.YthdnbgaehkifkaaDoorLCmd1
import Derived.Test.YthdnbgaehkifkaaDoorLConv
import Derived.Test.YthdnbgaehkifkaaDoorShParse
import Derived.Test.YthdnbgaehkifkaaDoorShHead
import Derived.Lib.SlTrimSet
set_option linter.unusedSimpArgs false
set_option linter.unusedVariables false
set_option maxHeartbeats 4000000
set_option maxRecDepth 4000
namespace Go.Ab.Tryd
open Go Go.Ab Go.Proofs
attribute [local irreducible] W Wl Wop TrA WSeq WLoopS FPost DPost RPost WRound DK onEnd
variable {n0 : Nat} {w0 : World} {gl : Nat → List AV} {H : List AO}
attribute [local simp] belowL_bytesAV

/-- What stands behind a text, asked for in either size. -/
def skipR (what s : List UInt8) : Option (List UInt8) := if what.length ≤ s.length ∧ (s.take what.length).map upB = what then some (s.drop what.length) else none

theorem skip_some {a : Nat} {what s r : List UInt8} (hs : s.length ≤ 1000000) (hw : what.length ≤ 100) (hA : H[a]? = some (.cells [.str s])) (h : skipR what s = some r) :
    AEnter (env n0 w0 gl) 37 [.ref a 0, .str what] H (fun y H' => y = .ret (.bool true) ∧ H' = H.set a (.cells [.str r])) := by
  unfold skipR at h
  split at h
  · rename_i hc
    injection h with h; subst h
    obtain ⟨h1, h2⟩ := hc
    have hh := And.intro hA h2
    refine enter (md := fun _ => 0) Tryd.func37 (fun hfit hgl => ?_)
    repeat' (first | refine go ?_ | (refine br (fun hc => ?_) (fun hc => ?_) <;> try (exfalso; omega)) | fail)
    all_goals first
      | exact .now ⟨rfl, rfl⟩
      | trace_state
  · simp at h
theorem skip_none {a : Nat} {what s : List UInt8} (hs : s.length ≤ 1000000) (hw : what.length ≤ 100) (hA : H[a]? = some (.cells [.str s])) (h : skipR what s = none) :
    AEnter (env n0 w0 gl) 37 [.ref a 0, .str what] H (fun y H' => y = .ret (.bool false) ∧ H' = H) := by
  unfold skipR at h
  split at h
  · simp at h
  · rename_i hc
    by_cases h1 : what.length ≤ s.length
    · have h2 : ¬ (s.take what.length).map upB = what := fun h2 => hc ⟨h1, h2⟩
      have hh := And.intro hA h2
      refine enter (md := fun _ => 0) Tryd.func37 (fun hfit hgl => ?_)
      repeat' (first | refine go ?_ | (refine br (fun hc => ?_) (fun hc => ?_) <;> try (exfalso; omega)) | fail)
      all_goals first
        | exact .now ⟨rfl, rfl⟩
        | trace_state
    · have hh := hA
      refine enter (md := fun _ => 0) Tryd.func37 (fun hfit hgl => ?_)
      repeat' (first | refine go ?_ | (refine br (fun hc => ?_) (fun hc => ?_) <;> try (exfalso; omega)) | fail)
      all_goals first
        | exact .now ⟨rfl, rfl⟩
        | trace_state

instance hasPrefix1_t (s : List UInt8) : Ctr (env n0 w0 gl) 85 [.str s, .str [60]] H (s.length ≤ 1000000) (.bool (decide (s.take 1 = [60]))) H := .of fun hs => by
  by_cases h1 : 1 ≤ s.length
  · refine enter (md := fun _ => 0) Tryd.func85 (fun hfit hgl => ?_)
    repeat' (first | refine go ?_ | (refine br (fun hc => ?_) (fun hc => ?_) <;> try (exfalso; omega)) | fail)
    exact .now ⟨rfl, rfl⟩
  · obtain rfl : s = [] := List.length_eq_zero_iff.1 (by omega)
    refine enter (md := fun _ => 0) Tryd.func85 (fun hfit hgl => ?_)
    repeat' (first | refine go ?_ | (refine br (fun hc => ?_) (fun hc => ?_) <;> try (exfalso; omega)) | fail)
    exact .now ⟨rfl, rfl⟩

/-- An address in brackets, and what is behind it. -/
noncomputable def pathR (s : List UInt8) : Option (List UInt8 × List UInt8) := if s.take 1 = [60] then (match cutAt 62 (s.drop 1) with
  | some (x, y) => if tf (x.length = 0 ∨ MailboxOk x) then some (x, y) else none
  | none => none) else none
noncomputable def pathV (s : List UInt8) : AV := match pathR s with
  | some (x, y) => .tup [.str x, .str y, .bool true]
  | none => .tup [.str [], .str s, .bool false]

instance pathParse_t (s : List UInt8) : Ctr (env n0 w0 gl) 38 [.str s] H (s.length ≤ 1000000) (pathV s) H := .of fun hs => by
  have hcp : ∀ H, Ctr (env n0 w0 gl) 53 [.str s, .str [60]] H True (if s.take 1 = [60] then .tup [.str (s.drop 1), .bool true] else .tup [.str s, .bool false]) H := fun H => .of fun _ => by
    have h2 : ∀ H, Ctr (env n0 w0 gl) 72 [.str s, .str [60]] H True (if s.take 1 = [60] then .tup [.str (s.drop 1), .bool true] else .tup [.str s, .bool false]) H := fun H => .of fun _ => by
      by_cases hp : s.take 1 = [60]
      · have hl : 1 ≤ s.length := by have := congrArg List.length hp; simp at this; omega
        rw [if_pos hp]
        have hh := hp
        refine enter (md := fun _ => 0) Tryd.func72 (fun hfit hgl => ?_)
        repeat' (first | refine go ?_ | (refine br (fun hc => ?_) (fun hc => ?_) <;> try (exfalso; omega)) | fail)
        exact .now ⟨rfl, rfl⟩
      · rw [if_neg hp]
        have hh := hp
        refine enter (md := fun _ => 0) Tryd.func72 (fun hfit hgl => ?_)
        repeat' (first | refine go ?_ | (refine br (fun hc => ?_) (fun hc => ?_) <;> try (exfalso; omega)) | fail)
        exact .now ⟨rfl, rfl⟩
    by_cases hp : s.take 1 = [60]
    · rw [if_pos hp] at h2 ⊢
      refine enter (md := fun _ => 0) Tryd.func53 (fun hfit hgl => ?_)
      repeat' (first | refine go ?_ | (refine br (fun hc => ?_) (fun hc => ?_) <;> try (exfalso; omega)) | fail)
      exact .now ⟨rfl, rfl⟩
    · rw [if_neg hp] at h2 ⊢
      refine enter (md := fun _ => 0) Tryd.func53 (fun hfit hgl => ?_)
      repeat' (first | refine go ?_ | (refine br (fun hc => ?_) (fun hc => ?_) <;> try (exfalso; omega)) | fail)
      exact .now ⟨rfl, rfl⟩
  unfold pathV pathR
  by_cases hp : s.take 1 = [60]
  · rw [if_pos hp] at hcp ⊢
    rcases hc : cutAt 62 (s.drop 1) with _ | ⟨x, y⟩
    · have hh : cutV 62 (s.drop 1) = .tup [.str (s.drop 1), .str [], .bool false] := by simp only [cutV, hc]
      have hl : (s.drop 1).length ≤ 1000000 := by rw [List.length_drop]; omega
      refine enter (md := fun _ => 0) Tryd.func38 (fun hfit hgl => ?_)
      repeat' (first | refine go ?_ | (refine br (fun hc => ?_) (fun hc => ?_) <;> try (exfalso; omega)) | fail)
      exact .now ⟨rfl, rfl⟩
    · have hv : cutV 62 (s.drop 1) = .tup [.str x, .str y, .bool true] := by simp only [cutV, hc]
      have hl : (s.drop 1).length ≤ 1000000 := by rw [List.length_drop]; omega
      have hcl := cutAt_len hc
      by_cases hx : x.length = 0 ∨ MailboxOk x
      · simp only [tf_true hx, if_true]
        by_cases hm : MailboxOk x
        · have hh := And.intro hv (tf_true hm)
          refine enter (md := fun _ => 0) Tryd.func38 (fun hfit hgl => ?_)
          repeat' (first | refine go ?_ | (refine br (fun hc => ?_) (fun hc => ?_) <;> try (exfalso; omega)) | fail)
          all_goals exact .now ⟨rfl, rfl⟩
        · have h0 : x.length = 0 := hx.resolve_right hm
          have hh := hv
          refine enter (md := fun _ => 0) Tryd.func38 (fun hfit hgl => ?_)
          repeat' (first | refine go ?_ | (refine br (fun hc => ?_) (fun hc => ?_) <;> try (exfalso; omega)) | fail)
          all_goals exact .now ⟨rfl, rfl⟩
      · simp only [tf_false hx, Bool.false_eq_true, if_false]
        have h0 : x.length ≠ 0 := fun h => hx (.inl h)
        have hh := And.intro hv (tf_false (p := MailboxOk x) fun h => hx (.inr h))
        refine enter (md := fun _ => 0) Tryd.func38 (fun hfit hgl => ?_)
        repeat' (first | refine go ?_ | (refine br (fun hc => ?_) (fun hc => ?_) <;> try (exfalso; omega)) | fail)
        all_goals exact .now ⟨rfl, rfl⟩
  · rw [if_neg hp] at hcp ⊢
    refine enter (md := fun _ => 0) Tryd.func38 (fun hfit hgl => ?_)
    repeat' (first | refine go ?_ | (refine br (fun hc => ?_) (fun hc => ?_) <;> try (exfalso; omega)) | fail)
    exact .now ⟨rfl, rfl⟩

end Go.Ab.Tryd
