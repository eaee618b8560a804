/- Plain: lines, colons, blanks, place by place. -/
import Derived.Test.YtpdjgbpmlckepaaGreatDoorSHead
import Derived.Test.YtpdjgbpmlckepaaGreatDoorSPath
set_option linter.unusedVariables false
namespace Go.Ab
open Go

theorem crlfAt_first : ∀ {s : List UInt8} {k : Nat}, k + 1 < s.length → (s.getD k 0).toNat = 13 → (s.getD (k + 1) 0).toNat = 10 → (∀ j, j < k → ¬ ((s.getD j 0).toNat = 13 ∧ (s.getD (j + 1) 0).toNat = 10)) → crlfAt s = some (s.take k, s.drop (k + 2))
  | [], k, h, _, _, _ => by simp at h
  | c :: t, 0, h, h1, h2, _ => by
    unfold crlfAt
    rw [if_pos]
    · cases t with
      | nil => simp at h
      | cons d t => simp
    · refine ⟨UInt8.toNat_inj.1 (by simpa using h1), ?_⟩
      cases t with
      | nil => simp at h
      | cons d t => simp only [List.head?_cons, Option.some.injEq]; exact UInt8.toNat_inj.1 (by simpa using h2)
  | c :: t, k + 1, h, h1, h2, h3 => by
    have ih := crlfAt_first (s := t) (k := k) (by simpa using h) (by simpa using h1) (by simpa using h2) (fun j hj => by have := h3 (j + 1) (by omega); simpa using this)
    unfold crlfAt
    rw [if_neg, ih]
    · simp
    · rintro ⟨rfl, h4⟩
      refine h3 0 (by omega) ⟨rfl, ?_⟩
      cases t with
      | nil => simp at h4
      | cons d t => simp only [List.head?_cons, Option.some.injEq] at h4; subst h4; rfl
theorem crlfAt_never : ∀ {s : List UInt8}, (∀ j, j + 1 < s.length → ¬ ((s.getD j 0).toNat = 13 ∧ (s.getD (j + 1) 0).toNat = 10)) → crlfAt s = none
  | [], _ => rfl
  | c :: t, h => by
    unfold crlfAt
    rw [if_neg, crlfAt_never (s := t) (fun j hj => by have := h (j + 1) (by simpa using hj); simpa using this)]
    · rfl
    · rintro ⟨rfl, h4⟩
      cases t with
      | nil => simp at h4
      | cons d t =>
        simp only [List.head?_cons, Option.some.injEq] at h4; subst h4
        exact h 0 (by simp) ⟨rfl, rfl⟩

theorem indexByte_first {s : List UInt8} {c : UInt8} {k : Nat} (hk : k < s.length) (h : (s.getD k 0).toNat = c.toNat) (hn : ∀ j, j < k → ¬ (s.getD j 0).toNat = c.toNat) : Lib.indexByte s c = (k : Int) := by
  rcases indexByte_cases s c with ⟨_, h2⟩ | ⟨m, hm, h1, h2, h3⟩
  · exact absurd (UInt8.toNat_inj.1 h) (h2 k hk)
  · rw [h1]
    have a : ¬ m < k := fun hlt => hn m hlt (by rw [h2])
    have b : ¬ k < m := fun hlt => h3 k hlt (UInt8.toNat_inj.1 h)
    omega
theorem indexByte_never {s : List UInt8} {c : UInt8} (hn : ∀ j, j < s.length → ¬ (s.getD j 0).toNat = c.toNat) : Lib.indexByte s c = -1 := by
  rcases indexByte_cases s c with ⟨h1, _⟩ | ⟨m, hm, h1, h2, h3⟩
  · exact h1
  · exact absurd (by rw [h2]) (hn m hm)

section
variable {p : UInt8 → Bool}
def dropR (p : UInt8 → Bool) (l : List UInt8) : List UInt8 := (l.reverse.dropWhile p).reverse
theorem dropR_snoc (l : List UInt8) (x : UInt8) : dropR p (l ++ [x]) = if p x then dropR p l else l ++ [x] := by
  unfold dropR
  rw [List.reverse_append, List.reverse_singleton, List.singleton_append, List.dropWhile_cons]
  split <;> simp
theorem dropWhile_nil_iff : ∀ {l : List UInt8}, l.dropWhile p = [] ↔ ∀ x ∈ l, p x = true
  | [] => by simp
  | x :: l => by
    rw [List.dropWhile_cons]
    by_cases hx : p x = true
    · rw [if_pos hx, dropWhile_nil_iff]; simp [hx]
    · rw [if_neg hx]; simp [hx]
theorem dropR_cons (l : List UInt8) (x : UInt8) : dropR p (x :: l) = if l.all p then (if p x then [] else [x]) else x :: dropR p l := by
  unfold dropR
  rw [List.reverse_cons, List.dropWhile_append]
  by_cases ha : l.all p = true
  · have : l.reverse.dropWhile p = [] := dropWhile_nil_iff.2 (by simpa using ha)
    rw [this, if_pos ha]
    simp only [List.isEmpty_nil, if_true, List.dropWhile_cons, List.dropWhile_nil]
    split <;> simp
  · have : l.reverse.dropWhile p ≠ [] := fun h => ha (by have := dropWhile_nil_iff.1 h; simpa using this)
    rw [if_neg ha, if_neg (by simpa using this)]
    simp
theorem dropLR (l : List UInt8) : (dropR p l).dropWhile p = dropR p (l.dropWhile p) := by
  induction l with
  | nil => rfl
  | cons x l ih =>
    by_cases hx : p x = true
    · have e1 : (x :: l).dropWhile p = l.dropWhile p := by rw [List.dropWhile_cons, if_pos hx]
      rw [e1, ← ih, dropR_cons]
      by_cases ha : l.all p = true
      · rw [if_pos ha, if_pos hx, ih]
        have : l.dropWhile p = [] := dropWhile_nil_iff.2 (by simpa using ha)
        rw [this]; rfl
      · rw [if_neg ha, List.dropWhile_cons, if_pos hx]
    · have e1 : (x :: l).dropWhile p = x :: l := by rw [List.dropWhile_cons, if_neg hx]
      rw [e1, dropR_cons]
      by_cases ha : l.all p = true
      · rw [if_pos ha, if_neg hx, List.dropWhile_cons, if_neg hx]
      · rw [if_neg ha, List.dropWhile_cons, if_neg hx]
end

end Go.Ab
