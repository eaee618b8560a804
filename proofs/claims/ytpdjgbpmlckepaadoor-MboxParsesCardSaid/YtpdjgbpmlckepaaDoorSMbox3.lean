/- Plain laws: lines of what is put together. -/
import Derived.Test.YtpdjgbpmlckepaaDoorSMbox2
set_option linter.unusedSimpArgs false
set_option linter.unusedVariables false
set_option maxHeartbeats 2000000
namespace Go.Ab.Tryd
open Go Go.Ab Go.Proofs

theorem lns_app (r : List UInt8) : ∀ s : List UInt8, (s = [] ∨ ∃ t, s = t ++ [10]) → lns (s ++ r) = lns s ++ lns r := by
  intro s
  induction hn : s.length using Nat.strongRecOn generalizing s with
  | _ n ih =>
    intro h
    rcases lns_shape s.length s (Nat.le_refl _) with ⟨h1, h2⟩ | ⟨h1, h2, h3⟩ | ⟨x, q, hq⟩
    · subst h1; simp [h2]
    · rcases h with h | ⟨t, ht⟩
      · exact absurd h h1
      · exact absurd (show (10 : UInt8) ∈ s by rw [ht]; simp) h2
    · obtain ⟨e, hx, hl, hlt⟩ := hq
      have hqe : q = [] ∨ ∃ t, q = t ++ [10] := by
        by_cases hq0 : q = []
        · exact .inl hq0
        · right
          rcases h with h | ⟨t, ht⟩
          · rw [h] at e
            have := congrArg List.length e
            simp only [List.length_nil, List.length_append] at this
            exact absurd (List.length_eq_zero_iff.1 (by omega)) hq0
          · refine ⟨q.dropLast, ?_⟩
            have h1 : (x ++ q).getLast? = some 10 := by rw [← e, ht]; simp
            have h2 : q.getLast? = some 10 := by
              rw [List.getLast?_append, List.getLast?_eq_some_getLast hq0] at h1
              rw [List.getLast?_eq_some_getLast hq0]; simpa using h1
            have h3 := List.dropLast_concat_getLast hq0
            rw [List.getLast?_eq_some_getLast hq0] at h2
            injection h2 with h2
            rw [← h2]; exact h3.symm
      rw [hl, e, List.append_assoc, lns_line hx, ih q.length (by omega) q rfl hqe]
      rfl

theorem lns_flat (r : List UInt8) : ∀ L : List (List UInt8), (∀ x ∈ L, IsLine x) → lns (L.flatten ++ r) = L ++ lns r
  | [], _ => rfl
  | x :: L, h => by
    rw [List.flatten_cons, List.append_assoc, lns_line (h x (List.mem_cons_self ..)), lns_flat r L fun y hy => h y (List.mem_cons_of_mem _ hy)]
    rfl
theorem lns_nl : lns [10] = [[10]] := by decide
theorem isLine_nl : IsLine [10] := ⟨[], by simp, rfl⟩
/-- All lines of what ends with a line's end are ended. -/
theorem lns_all : ∀ b : List UInt8, (b = [] ∨ ∃ t, b = t ++ [10]) → ∀ x ∈ lns b, IsLine x := by
  intro b hb
  rcases hb with rfl | ⟨t, rfl⟩
  · intro x hx; simp [lns] at hx
  · intro x hx
    induction hn : t.length using Nat.strongRecOn generalizing t with
    | _ n ih =>
      rcases lns_shape t.length t (Nat.le_refl _) with ⟨h1, h2⟩ | ⟨h1, h2, h3⟩ | ⟨y, q, e, hy, hl, hlt⟩
      · subst h1
        rw [List.nil_append, lns_nl] at hx
        simp only [List.mem_singleton] at hx
        subst hx; exact isLine_nl
      · have hy : IsLine (t ++ [10]) := ⟨t, h2, rfl⟩
        have := lns_line hy []
        rw [List.append_nil] at this
        rw [this] at hx
        rcases List.mem_cons.1 hx with h | h
        · rw [h]; exact hy
        · simp [lns] at h
      · rw [e, List.append_assoc, lns_line hy] at hx
        rcases List.mem_cons.1 hx with h | h
        · rw [h]; exact hy
        · exact ih q.length (by omega) q h rfl
/-- The lines of a body that is shown, and of what stands behind. -/
theorem lns_body {b : List UInt8} (hb : b = [] ∨ ∃ t, b = t ++ [10]) (rest : List UInt8) : lns (quoteS b ++ 10 :: rest) = (lns b).map quoteL ++ [10] :: lns rest := by
  have h1 : quoteS b = ((lns b).map quoteL).flatten := by unfold quoteS; rw [List.flatMap_def]
  have h2 : lns (10 :: rest) = [10] :: lns rest := lns_cons_nl rest
  rw [h1, lns_flat (10 :: rest) _ (fun x hx => by
    obtain ⟨y, hy, rfl⟩ := List.mem_map.1 hx
    exact isLine_quote (lns_all b hb y hy)), h2]

end Go.Ab.Tryd
