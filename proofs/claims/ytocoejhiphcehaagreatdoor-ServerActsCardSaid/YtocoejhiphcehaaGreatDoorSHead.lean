/- Plain: lines that end in CR LF. -/
import Derived.Lib.Index
import Derived.Lib.IndexBytes
import Derived.Lib.SlTrimSet
set_option linter.unusedVariables false
namespace Go.Ab
open Go

/-- What stands before the first CR LF, and behind it. -/
def crlfAt : List UInt8 → Option (List UInt8 × List UInt8)
  | [] => none
  | c :: t => if c = 13 ∧ t.head? = some 10 then some ([], t.tail) else (crlfAt t).map fun p => (c :: p.1, p.2)

theorem crlf_prefix (c : UInt8) (t : List UInt8) : (([13, 10] : List UInt8).isPrefixOf (c :: t) = true) ↔ (c = 13 ∧ t.head? = some 10) := by
  cases t with
  | nil => simp only [List.isPrefixOf, Bool.and_false, List.head?_nil]; simp
  | cons d t =>
    simp only [List.isPrefixOf, Bool.and_true, Bool.and_eq_true, beq_iff_eq, List.head?_cons, Option.some.injEq]
    exact ⟨fun h => ⟨h.1.symm, h.2.symm⟩, fun h => ⟨h.1.symm, h.2.symm⟩⟩

theorem crlfAt_idx : ∀ (s : List UInt8), (Lib.index s [13, 10] = -1 ∧ crlfAt s = none) ∨ ∃ k : Nat, k + 2 ≤ s.length ∧ Lib.index s [13, 10] = (k : Int) ∧ crlfAt s = some (s.take k, s.drop (k + 2))
  | [] => .inl ⟨rfl, rfl⟩
  | c :: t => by
    unfold Lib.index crlfAt
    by_cases h : c = 13 ∧ t.head? = some 10
    · rw [if_pos ((crlf_prefix c t).2 h), if_pos h]
      refine .inr ⟨0, ?_, rfl, ?_⟩
      · cases t with
        | nil => simp at h
        | cons d t => simp
      · cases t with
        | nil => simp at h
        | cons d t => simp
    · rw [if_neg (fun hh => h ((crlf_prefix c t).1 hh)), if_neg h]
      rcases crlfAt_idx t with ⟨h1, h2⟩ | ⟨k, hk, h1, h2⟩
      · left; rw [h1, h2]; exact ⟨rfl, rfl⟩
      · right
        refine ⟨k + 1, by simp; omega, ?_, ?_⟩
        · rw [h1, if_neg (by simp)]; rfl
        · rw [h2]; simp

theorem crlfAt_len {s x y : List UInt8} (h : crlfAt s = some (x, y)) : s.length = x.length + 2 + y.length := by
  rcases crlfAt_idx s with ⟨_, h2⟩ | ⟨k, hk, _, h2⟩
  · rw [h2] at h; simp at h
  · rw [h2] at h; simp only [Option.some.injEq, Prod.mk.injEq] at h
    rw [← h.1, ← h.2]; simp; omega

/-- The lines, without their ends; what has no end is none. -/
def linesOf (s : List UInt8) : List (List UInt8) := match h : crlfAt s with
  | none => []
  | some (x, y) => x :: linesOf y
termination_by s.length
decreasing_by have := crlfAt_len h; omega

theorem linesOf_none {s : List UInt8} (h : crlfAt s = none) : linesOf s = [] := by
  rw [linesOf]; split
  · rfl
  · rename_i x y h2; rw [h] at h2; simp at h2
theorem linesOf_some {s x y : List UInt8} (h : crlfAt s = some (x, y)) : linesOf s = x :: linesOf y := by
  conv => lhs; rw [linesOf]
  split
  · rename_i h2; rw [h] at h2; simp at h2
  · rename_i x' y' h2; rw [h] at h2; simp at h2; rw [h2.1, h2.2]

end Go.Ab
