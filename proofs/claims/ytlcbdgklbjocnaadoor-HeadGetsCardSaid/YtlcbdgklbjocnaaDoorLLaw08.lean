/- Walks: what the laws on heads ask. -/
import Derived.Test.YtlcbdgklbjocnaaDoorLHead2
set_option linter.unusedSimpArgs false
set_option linter.unusedVariables false
set_option maxHeartbeats 2000000
set_option maxRecDepth 4000
namespace Go.Ab.Tryd
open Go Go.Ab Go.Proofs
attribute [local irreducible] W Wl Wop TrA WSeq WLoopS FPost DPost RPost WRound DK onEnd
variable {n0 : Nat} {w0 : World} {gl : Nat → List AV} {H : List AO}

def FewOk (l : List (List UInt8 × List UInt8)) : Prop := (l.length ≤ 20 ∨ l.length = 1001) ∧ ∀ i, i < l.length → (l.getD i ([], [])).1.length ≤ 200 ∧ (l.getD i ([], [])).2.length ≤ 300

instance few_t (l : List (List UInt8 × List UInt8)) : Ctr (env n0 w0 gl) 27 [.sl l.length (fldAV l) .ro] H True (.bool (tf (FewOk l))) H := .of fun _ => by
  have hfl := fldAV_len l
  refine enter (md := fun _ => 0) Tryd.func27 (fun hfit hgl => ?_)
  have hh := hfl
  repeat' (first | refine go ?_ | (refine br (fun hc => ?_) (fun hc => ?_) <;> try (exfalso; omega)) | fail)
  all_goals try (refine .now ⟨?_, rfl⟩; rw [tf_false (p := FewOk l) (fun h => by have := h.1; omega)]; done)
  all_goals
    refine loop0 (fun i : Nat => (.top :: .top :: .top :: .top :: .top :: .top :: .top :: .top :: .top :: .top :: .top :: .top :: .top :: .sl l.length (fldAV l) .ro :: .int .i64 l.length :: .int .i64 (i : Int) :: .top :: .top :: .top :: .top :: .top :: .top :: .top :: .top :: .top :: .top :: .top :: .top :: .top :: .top :: [])) (fun i => i ≤ l.length ∧ ∀ k, k < i → (l.getD k ([], [])).1.length ≤ 200 ∧ (l.getD k ([], [])).2.length ≤ 300) (fun i => l.length - i) 0 ⟨Nat.zero_le _, fun k h => absurd h (Nat.not_lt_zero _)⟩ ?_
    rintro i ⟨hi, hall⟩
    by_cases hlt : i < l.length
    · have hat := fldAV_at hlt
      have hh := And.intro hfl hat
      repeat' (first | refine go ?_ | (refine br (fun hc => ?_) (fun hc => ?_) <;> try (exfalso; omega)) | fail)
      all_goals first
        | (refine again (i + 1) ⟨by omega, fun k hk => ?_⟩
           rcases Nat.lt_succ_iff_lt_or_eq.1 hk with h | h
           · exact hall k h
           · subst h; omega)
        | (refine .junkd ⟨?_, rfl⟩
           rw [tf_false (p := FewOk l) (fun h => by have := h.2 i hlt; omega)])
    · have hh := hfl
      repeat' (first | refine go ?_ | (refine br (fun hc => ?_) (fun hc => ?_) <;> try (exfalso; omega)) | fail)
      refine .now ⟨?_, rfl⟩
      rw [tf_true (p := FewOk l) ⟨by omega, fun k hk => hall k (by omega)⟩]

instance same_t (l m : List (List UInt8 × List UInt8)) (tok tok2 : Tok) : Ctr (env n0 w0 gl) 26 [.sl l.length (fldAV l) tok, .sl m.length (fldAV m) tok2] H (l.length ≤ 9223372036854775807) (.bool (tf (l = m))) H := .of fun hl => by
  have hfl := fldAV_len l
  have hfm := fldAV_len m
  refine enter (md := fun _ => 0) Tryd.func26 (fun hfit hgl => ?_)
  repeat' (first | refine go ?_ | (refine br (fun hc => ?_) (fun hc => ?_) <;> try (exfalso; omega)) | fail)
  all_goals try (refine .now ⟨?_, rfl⟩; rw [tf_false (p := l = m) (fun h => by subst h; omega)]; done)
  refine loop0 (fun i : Nat => (.sl l.length (fldAV l) tok :: .sl m.length (fldAV m) tok2 :: .top :: .top :: .top :: .top :: .top :: .top :: .top :: .top :: .top :: .top :: .int .i64 l.length :: .int .i64 (i : Int) :: .top :: .top :: .top :: .top :: .top :: .top :: .top :: .top :: .top :: .top :: .top :: .top :: [])) (fun i => i ≤ l.length ∧ ∀ k, k < i → l.getD k ([], []) = m.getD k ([], [])) (fun i => l.length - i) 0 ⟨Nat.zero_le _, fun k h => absurd h (Nat.not_lt_zero _)⟩ ?_
  rintro i ⟨hi, hall⟩
  by_cases hlt : i < l.length
  · have hat := fldAV_at hlt
    have hat2 := fldAV_at (l := m) (i := i) (by omega)
    have hh := And.intro hfl (And.intro hat (And.intro hfm hat2))
    repeat' (first | refine go ?_ | (refine br (fun hc => ?_) (fun hc => ?_) <;> try (exfalso; omega)) | fail)
    · refine .now ⟨?_, rfl⟩
      rw [tf_false (p := l = m) (fun h => by subst h; simp at hc)]
    · refine again (i + 1) ⟨by omega, fun k hk => ?_⟩
      rcases Nat.lt_succ_iff_lt_or_eq.1 hk with h | h
      · exact hall k h
      · subst h
        exact Prod.ext hc.1 hc.2
  · have hh := hfl
    repeat' (first | refine go ?_ | (refine br (fun hc => ?_) (fun hc => ?_) <;> try (exfalso; omega)) | fail)
    refine .now ⟨?_, rfl⟩
    rw [tf_true (p := l = m)]
    refine List.ext_getElem (by omega) fun k h1 h2 => ?_
    have := hall k (by omega)
    simpa [List.getD_eq_getElem?_getD, h1, h2] using this

end Go.Ab.Tryd
