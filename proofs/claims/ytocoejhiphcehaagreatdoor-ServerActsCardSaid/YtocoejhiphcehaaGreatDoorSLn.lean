/- Plain laws: lines with their ends, as the document cuts them. -/
import Derived.Test.YtocoejhiphcehaaGreatDoorSHead
set_option linter.unusedSimpArgs false
set_option linter.unusedVariables false
set_option maxHeartbeats 2000000
set_option maxRecDepth 4000
namespace Go.Ab
open Go
theorem crlf_line : ∀ {x y : List UInt8}, 13 ∉ x → crlfAt (x ++ (13 :: 10 :: y)) = some (x, y)
  | [], y, _ => by simp [crlfAt]
  | c :: x, y, h => by
    simp only [List.mem_cons, not_or] at h
    rw [List.cons_append, crlfAt, if_neg (fun e => h.1 e.1.symm), crlf_line h.2]; rfl
end Go.Ab
namespace Go.Ab.Tryz
open Go Go.Ab
theorem crlfAt_eq : ∀ {s x y : List UInt8}, crlfAt s = some (x, y) → s = x ++ (13 :: 10 :: y)
  | [], x, y, h => by simp [crlfAt] at h
  | c :: t, x, y, h => by
    unfold crlfAt at h
    split at h
    · rename_i hc
      simp only [Option.some.injEq, Prod.mk.injEq] at h
      rw [← h.1, ← h.2, hc.1]
      cases t with
      | nil => simp at hc
      | cons d t => simp only [List.head?_cons, Option.some.injEq] at hc; rw [hc.2]; rfl
    · cases h2 : crlfAt t with
      | none => rw [h2] at h; simp at h
      | some p =>
        rw [h2] at h
        simp only [Option.map_some, Option.some.injEq, Prod.mk.injEq] at h
        rw [← h.1, ← h.2]
        have e := crlfAt_eq (s := t) (x := p.1) (y := p.2) h2
        rw [List.cons_append, ← e]
/-- Whether a line's end stands at a place. -/
def EndAt (s : List UInt8) (j : Nat) : Prop := s[j]? = some 13 ∧ s[j + 1]? = some 10
theorem crlf_first : ∀ (s : List UInt8) (k : Nat), EndAt s k → (∀ j, j < k → ¬ EndAt s j) → crlfAt s = some (s.take k, s.drop (k + 2))
  | [], k, h, _ => by simp [EndAt] at h
  | c :: t, 0, h, _ => by
    obtain ⟨h1, h2⟩ := h
    have e1 : c = 13 := by simpa using h1
    have e2 : t.head? = some 10 := by cases t with
      | nil => simp at h2
      | cons d t => simpa using h2
    unfold crlfAt
    rw [if_pos ⟨e1, e2⟩]
    cases t with
    | nil => simp at e2
    | cons d t => rfl
  | c :: t, k + 1, h, hno => by
    have h0 := hno 0 (by omega)
    have hn : ¬ (c = 13 ∧ t.head? = some 10) := fun ⟨e1, e2⟩ => h0 ⟨by simp [e1], by cases t with
      | nil => simp at e2
      | cons d t => simpa using e2⟩
    have h' : EndAt t k := ⟨by simpa using h.1, by simpa using h.2⟩
    have := crlf_first t k h' (fun j hj hE => hno (j + 1) (by omega) ⟨by simpa using hE.1, by simpa using hE.2⟩)
    unfold crlfAt
    rw [if_neg hn, this]
    simp
theorem crlf_never : ∀ (s : List UInt8), (∀ j, ¬ EndAt s j) → crlfAt s = none
  | [], _ => by simp [crlfAt]
  | c :: t, hno => by
    have hn : ¬ (c = 13 ∧ t.head? = some 10) := fun ⟨e1, e2⟩ => hno 0 ⟨by simp [e1], by cases t with
      | nil => simp at e2
      | cons d t => simpa using e2⟩
    have := crlf_never t (fun j hE => hno (j + 1) ⟨by simpa using hE.1, by simpa using hE.2⟩)
    unfold crlfAt
    rw [if_neg hn, this]; rfl

/-- Lines with their ends; what is left. -/
def linL (s : List UInt8) : List (List UInt8) × List UInt8 := match h : crlfAt s with
  | none => ([], s)
  | some (x, y) => ((x ++ [13, 10]) :: (linL y).1, (linL y).2)
termination_by s.length
decreasing_by all_goals (have := crlfAt_len h; omega)
theorem linL_none {s : List UInt8} (h : crlfAt s = none) : linL s = ([], s) := by
  rw [linL]; split
  · rfl
  · rename_i x y h2; rw [h] at h2; simp at h2
theorem linL_some {s x y : List UInt8} (h : crlfAt s = some (x, y)) : linL s = ((x ++ [13, 10]) :: (linL y).1, (linL y).2) := by
  conv => lhs; rw [linL]
  split
  · rename_i h2; rw [h] at h2; simp at h2
  · rename_i x' y' h2
    rw [h] at h2
    simp only [Option.some.injEq, Prod.mk.injEq] at h2
    rw [h2.1, h2.2]
theorem take_two {D X Y : List UInt8} {n : Nat} (e : D = X ++ 13 :: 10 :: Y) (hn : n = X.length + 2) : X ++ [13, 10] = D.take n := by
  rw [e, hn, List.take_append, List.take_of_length_le (by omega), show X.length + 2 - X.length = 2 by omega]; rfl
/-- One line more. -/
theorem linL_step {b : List UInt8} {at_ i : Nat} {out : List (List UInt8)} (hi : at_ + 1 ≤ i) (h13 : b[i - 1]? = some 13) (h10 : b[i]? = some 10) (hno : ∀ j, at_ ≤ j → j + 1 < i → ¬ EndAt b j)
    (h : linL b = (out ++ (linL (b.drop at_)).1, (linL (b.drop at_)).2)) : linL b = ((out ++ [(b.drop at_).take (i + 1 - at_)]) ++ (linL (b.drop (i + 1))).1, (linL (b.drop (i + 1))).2) := by
  have hE : EndAt (b.drop at_) (i - 1 - at_) := by
    refine ⟨?_, ?_⟩
    · rw [List.getElem?_drop, show at_ + (i - 1 - at_) = i - 1 by omega]; exact h13
    · rw [List.getElem?_drop, show at_ + (i - 1 - at_ + 1) = i by omega]; exact h10
  have hc := crlf_first (b.drop at_) (i - 1 - at_) hE (fun j hj hE => hno (at_ + j) (by omega) (by omega) ⟨by have := hE.1; rwa [List.getElem?_drop] at this, by have := hE.2; rwa [List.getElem?_drop, show at_ + (j + 1) = at_ + j + 1 by omega] at this⟩)
  have hd : (b.drop at_).drop (i - 1 - at_ + 2) = b.drop (i + 1) := by rw [List.drop_drop]; congr 1; omega
  rw [hd] at hc
  have hs := linL_some hc
  have hx : (b.drop at_).take (i - 1 - at_) ++ [13, 10] = (b.drop at_).take (i + 1 - at_) := by
    have e := crlfAt_eq hc
    have l1 : ((b.drop at_).take (i - 1 - at_)).length = i - 1 - at_ := by
      have := (List.getElem?_eq_some_iff.1 hE.1).1
      rw [List.length_take]; omega
    exact take_two e (by omega)
  rw [h, hs, hx]
  simp
theorem linL_join (s : List UInt8) : (linL s).1.flatten ++ (linL s).2 = s := by
  induction hn : s.length using Nat.strongRecOn generalizing s with
  | _ n ih =>
    cases h : crlfAt s with
    | none => rw [linL_none h]; rfl
    | some p =>
      obtain ⟨x, y⟩ := p
      have ih2 := ih y.length (by have := crlfAt_len h; omega) y rfl
      rw [linL_some h]
      have := crlfAt_eq h
      simp only [List.flatten_cons]
      rw [List.append_assoc, ih2, this]; simp
theorem linL_ends (s : List UInt8) : ∀ x ∈ (linL s).1, ∃ y, x = y ++ [13, 10] := by
  induction hn : s.length using Nat.strongRecOn generalizing s with
  | _ n ih =>
    cases h : crlfAt s with
    | none => rw [linL_none h]; intro x hx; simp at hx
    | some p =>
      obtain ⟨x, y⟩ := p
      have ih2 := ih y.length (by have := crlfAt_len h; omega) y rfl
      rw [linL_some h]
      intro z hz
      rcases List.mem_cons.1 hz with e | e
      · exact ⟨x, e⟩
      · exact ih2 z e
theorem linL_count (s : List UInt8) : 2 * (linL s).1.length ≤ s.length := by
  induction hn : s.length using Nat.strongRecOn generalizing s with
  | _ n ih =>
    cases h : crlfAt s with
    | none => rw [linL_none h]; simp
    | some p =>
      obtain ⟨x, y⟩ := p
      have hl := crlfAt_len h
      have := ih y.length (by omega) y rfl
      rw [linL_some h]; simp only [List.length_cons]; omega
theorem mem_flat_len {x : List UInt8} : ∀ {l : List (List UInt8)}, x ∈ l → x.length ≤ l.flatten.length
  | [], h => by simp at h
  | y :: l, h => by
    simp only [List.flatten_cons, List.length_append]
    rcases List.mem_cons.1 h with e | e
    · subst e; omega
    · have := mem_flat_len e; omega
theorem flat_take (L : List (List UInt8)) (i : Nat) : (L.take i).flatten.length ≤ L.flatten.length := by
  have h := congrArg List.length (congrArg List.flatten (List.take_append_drop i L))
  rw [List.flatten_append, List.length_append] at h; omega
theorem flat_succ {L : List (List UInt8)} {i : Nat} (h : i < L.length) : (L.take (i + 1)).flatten.length = (L.take i).flatten.length + (L[i]).length := by
  rw [List.take_add_one, List.getElem?_eq_getElem h, List.flatten_append, List.length_append]; simp
end Go.Ab.Tryz
