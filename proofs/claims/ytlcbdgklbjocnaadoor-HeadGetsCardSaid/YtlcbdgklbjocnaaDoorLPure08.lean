/- Plain: heads cut behind themselves; heads shown and read again. -/
import Derived.Test.YtlcbdgklbjocnaaDoorLHead7
import Derived.Test.YtlcbdgklbjocnaaDoorLHead9
import Derived.Test.YtlcbdgklbjocnaaDoorLRef08
set_option linter.unusedVariables false
namespace Go.Ab.Tryd
open Go Go.Ab

theorem crlfAt_app {s x y : List UInt8} (h : crlfAt s = some (x, y)) : s = x ++ 13 :: 10 :: y := by
  induction s generalizing x with
  | nil => simp [crlfAt] at h
  | cons c t ih =>
    unfold crlfAt at h
    split at h
    · rename_i hc
      simp only [Option.some.injEq, Prod.mk.injEq] at h
      obtain ⟨rfl, rfl⟩ := h
      obtain ⟨rfl, h2⟩ := hc
      cases t with
      | nil => simp at h2
      | cons d t => simp only [List.head?_cons, Option.some.injEq] at h2; subst h2; rfl
    · cases hq : crlfAt t with
      | none => rw [hq] at h; simp at h
      | some p =>
        rw [hq] at h
        simp only [Option.map_some, Option.some.injEq, Prod.mk.injEq] at h
        obtain ⟨rfl, rfl⟩ := h
        rw [List.cons_append, ← ih hq]
/-- A line that holds no CR, its end, and what stands behind. -/
theorem crlfAt_line : ∀ {x : List UInt8} (y : List UInt8), (∀ c ∈ x, c ≠ 13) → crlfAt (x ++ 13 :: 10 :: y) = some (x, y)
  | [], y, _ => by rw [List.nil_append]; unfold crlfAt; rw [if_pos (by simp)]; rfl
  | c :: x, y, h => by
    rw [List.cons_append]
    unfold crlfAt
    rw [if_neg (fun hh => h c (by simp) hh.1), crlfAt_line y (fun d hd => h d (by simp [hd]))]
    rfl
theorem crlfAt_take : ∀ {s x y : List UInt8} {m : Nat}, crlfAt s = some (x, y) → crlfAt (s.take (x.length + 2 + m)) = some (x, y.take m) := by
  intro s
  induction s with
  | nil => intro x y m h; simp [crlfAt] at h
  | cons c t ih =>
    intro x y m h
    unfold crlfAt at h
    split at h
    · rename_i hc
      simp only [Option.some.injEq, Prod.mk.injEq] at h
      obtain ⟨rfl, rfl⟩ := h
      obtain ⟨rfl, h2⟩ := hc
      cases t with
      | nil => simp at h2
      | cons d t =>
        simp only [List.head?_cons, Option.some.injEq] at h2; subst h2
        rw [show ([] : List UInt8).length + 2 + m = m + 1 + 1 by simp; omega, List.take_succ_cons, List.take_succ_cons]
        exact crlfAt_line (x := []) _ (by simp)
    · rename_i hc
      cases hq : crlfAt t with
      | none => rw [hq] at h; simp at h
      | some p =>
        rw [hq] at h
        simp only [Option.map_some, Option.some.injEq, Prod.mk.injEq] at h
        obtain ⟨rfl, rfl⟩ := h
        have := ih (m := m) hq
        rw [show (c :: p.1).length + 2 + m = (p.1.length + 2 + m) + 1 by simp; omega, List.take_succ_cons]
        unfold crlfAt
        rw [this, if_neg]
        · rfl
        · rintro ⟨rfl, h2⟩
          refine hc ⟨rfl, ?_⟩
          cases t with
          | nil => simp at h2
          | cons d t => rw [show p.1.length + 2 + m = (p.1.length + 1 + m) + 1 by omega, List.take_succ_cons] at h2; exact h2
theorem linesOf_take : ∀ (pre post : List (List UInt8)) (s : List UInt8), linesOf s = pre ++ post → linesOf (s.take (pre.map fun x => x.length + 2).sum) = pre
  | [], post, s, h => by simp only [List.map_nil, List.sum_nil, List.take_zero]; exact linesOf_none rfl
  | x :: pre, post, s, h => by
    cases hc : crlfAt s with
    | none => rw [linesOf_none hc] at h; simp at h
    | some p =>
      obtain ⟨x', y⟩ := p
      rw [linesOf_some hc, List.cons_append] at h
      simp only [List.cons.injEq] at h
      obtain ⟨rfl, h⟩ := h
      rw [List.map_cons, List.sum_cons, linesOf_some (crlfAt_take hc), linesOf_take pre post y h]

theorem headR_cut {b : List UInt8} {l : Flds} {u : Nat} (h : headR b = some (l, u)) : headR (b.take u) = some (l, u) := by
  unfold headR at h
  cases hf : foldR hstep ([], 0) (linesOf b) with
  | go j =>
    rw [hf] at h; simp only [Option.some.injEq] at h; subst h
    have hu := (hstep_used _ _ _ hf).1
    simp only [Nat.zero_add] at hu
    have := linesOf_take (linesOf b) [] b (by simp)
    rw [← hu] at this
    unfold headR
    rw [this, hf]
  | stop j =>
    rw [hf] at h; simp only [Option.some.injEq] at h; subst h
    obtain ⟨pre, x, post, j1, hx, h1, h2⟩ := foldR_stop_ex _ _ _ hf
    have hu := (hstep_used _ _ _ h1).1
    simp only [Nat.zero_add] at hu
    have key : ((l, u) = (j1.1, j1.2 + 2) ∧ x.length = 0) ∨ (l, u) = j1 := by
      unfold hstep at h2
      split at h2
      · rename_i h0; simp only [Res.stop.injEq] at h2; exact .inl ⟨h2.symm, h0⟩
      · split at h2
        · split at h2 <;> simp at h2
        · split at h2
          · simp only [Res.stop.injEq] at h2; exact .inr h2.symm
          · split at h2
            · simp at h2
            · simp only [Res.stop.injEq] at h2; exact .inr h2.symm
    rcases key with ⟨key, h0⟩ | key
    · injection key with k1 k2
      have := linesOf_take (pre ++ [x]) post b (by rw [hx]; simp)
      have hs : ((pre ++ [x]).map fun x => x.length + 2).sum = u := by simp only [List.map_append, List.sum_append, List.map_cons, List.map_nil, List.sum_cons, List.sum_nil]; omega
      rw [hs] at this
      unfold headR
      rw [this, foldR_stop h1 h2]
    · subst key
      have := linesOf_take pre (x :: post) b hx
      rw [← hu] at this
      unfold headR
      rw [this, h1]
  | die p => rw [hf] at h; simp at h
theorem headP_cut {b : List UInt8} (h : (headP b).2.2 = 0) : headP (b.take (headP b).2.1) = headP b := by
  cases hR : headR b with
  | none => unfold headP at h; rw [hR] at h; simp at h
  | some j =>
    obtain ⟨l, u⟩ := j
    by_cases hlu : l.length ≤ 1000 ∧ u ≤ 100000
    · have hP : headP b = (l.map trimF, u, 0) := by unfold headP; rw [hR]; simp only [if_pos hlu]
      rw [hP]
      unfold headP
      rw [headR_cut hR]
      simp only [if_pos hlu]
    · unfold headP at h; rw [hR] at h; simp only [if_neg hlu] at h; omega

/-! ### Shown and read again -/
theorem no13 {s : List UInt8} (h : Lib.indexByte s 13 < 0) : ∀ c ∈ s, c ≠ 13 := by
  intro c hc he
  subst he
  obtain ⟨i, hi, he⟩ := List.getElem_of_mem hc
  exact (indexByte_neg s 13).1 h i hi (by simp [List.getD_eq_getElem?_getD, hi, he])
theorem nameOk_mem {s : List UInt8} (h : NameOk s) : ∀ c ∈ s, nameB c := by
  intro c hc
  obtain ⟨i, hi, he⟩ := List.getElem_of_mem hc
  have := h.1 i hi
  simpa [List.getD_eq_getElem?_getD, hi, he] using this
theorem cutAt_app : ∀ {x : List UInt8} (y : List UInt8), (∀ c ∈ x, c ≠ 58) → cutAt 58 (x ++ 58 :: y) = some (x, y)
  | [], y, _ => by simp [cutAt]
  | c :: x, y, h => by
    have := cutAt_app (x := x) y (fun d hd => h d (by simp [hd]))
    rw [List.cons_append]
    unfold cutAt
    rw [this]
    have hc : c ≠ 58 := h c (by simp)
    simp [hc]

/-- A field's line. -/
def lineF (f : List UInt8 × List UInt8) : List UInt8 := f.1 ++ 58 :: 32 :: f.2
theorem showF_line (f : List UInt8 × List UInt8) : showF f = lineF f ++ [13, 10] := by simp [showF, lineF]
theorem lineF_no13 {f : List UInt8 × List UInt8} (h : FldOk f) : ∀ c ∈ lineF f, c ≠ 13 := by
  intro c hc
  simp only [lineF, List.mem_append, List.mem_cons] at hc
  rcases hc with hc | rfl | rfl | hc
  · have := nameOk_mem h.1 c hc
    rintro rfl
    exact absurd this.1 (by decide)
  · decide
  · decide
  · exact no13 h.2.1 c hc
theorem linesOf_show : ∀ (l : Flds) (more : List UInt8), (∀ f ∈ l, FldOk f) → linesOf (showL l ++ more) = l.map lineF ++ linesOf more
  | [], more, _ => rfl
  | f :: l, more, h => by
    have e : showL (f :: l) ++ more = lineF f ++ 13 :: 10 :: (showL l ++ more) := by simp [showL, showF_line]
    rw [e, linesOf_some (crlfAt_line _ (lineF_no13 (h f (by simp)))), linesOf_show l more (fun g hg => h g (by simp [hg]))]
    rfl
theorem lineF_len (f : List UInt8 × List UInt8) : (lineF f).length + 2 = (showF f).length := by rw [showF_line]; simp
theorem hstep_line {j : Flds × Nat} {f : List UInt8 × List UInt8} (h : FldOk f) : hstep j (lineF f) = .go (j.1 ++ [(f.1, 32 :: f.2)], j.2 + (showF f).length) := by
  have h0 : f.1.length ≠ 0 := h.1.2.1
  have hl : (lineF f).length ≠ 0 := by simp [lineF]
  have hfirst : nameB ((lineF f).getD 0 0) := by
    have := h.1.1 0 (by omega)
    unfold lineF
    cases hq : f.1 with
    | nil => rw [hq] at h0; simp at h0
    | cons c t => rw [hq] at this; simpa using this
  unfold hstep
  rw [if_neg hl, if_neg (by have := hfirst.1; omega)]
  have hc : cutAt 58 (lineF f) = some (f.1, 32 :: f.2) := cutAt_app _ (fun c hc he => by subst he; exact (nameOk_mem h.1 _ hc).2.2 rfl)
  rw [hc]
  simp only [tf_true h.1, if_true, lineF_len]
theorem foldR_show : ∀ (l : Flds) (j : Flds × Nat), (∀ f ∈ l, FldOk f) → foldR hstep j (l.map lineF) = .go (j.1 ++ l.map (fun f => (f.1, 32 :: f.2)), j.2 + (showL l).length)
  | [], j, _ => by simp [foldR, showL]
  | f :: l, j, h => by
    rw [List.map_cons, foldR, hstep_line (h f (by simp))]
    simp only
    rw [foldR_show l _ (fun g hg => h g (by simp [hg]))]
    simp [showL]
    omega
theorem trim_pad {s : List UInt8} (h : Lib.trimS s [32, 9] = s) : Lib.trimS (32 :: s) [32, 9] = s := by
  rw [trimS_eq] at h ⊢
  rw [List.dropWhile_cons, if_pos (by decide)]
  exact h
theorem headP_show {l : Flds} {s : List UInt8} (more : List UInt8) (h : showR l = .inl s) : headP (s ++ more) = (l, s.length, 0) := by
  have hok : ∀ i, i < l.length → FldOk (l.getD i ([], [])) := by
    refine Classical.byContradiction fun hn => ?_
    unfold showR at h
    rw [tf_false hn] at h
    simp at h
  have hok2 : ∀ f ∈ l, FldOk f := fun f hf => by
    obtain ⟨i, hi, he⟩ := List.getElem_of_mem hf
    have := hok i hi
    simpa [List.getD_eq_getElem?_getD, hi, he] using this
  unfold showR at h
  rw [tf_true hok] at h
  simp only [if_true] at h
  split at h
  · rename_i hlu
    simp only [Sum.inl.injEq] at h
    subst h
    have e : showL l ++ [13, 10] ++ more = showL l ++ (13 :: 10 :: more) := by simp
    have hlines := linesOf_show l (13 :: 10 :: more) hok2
    have hl0 : linesOf (13 :: 10 :: more) = [] :: linesOf more := linesOf_some (crlfAt_line (x := []) more (by simp))
    rw [hl0] at hlines
    have hR : headR (showL l ++ [13, 10] ++ more) = some (l.map (fun f => (f.1, 32 :: f.2)), (showL l).length + 2) := by
      unfold headR
      rw [e, hlines, foldR_stop (foldR_show l ([], 0) hok2) (o := (l.map (fun f => (f.1, 32 :: f.2)), (showL l).length + 2)) (by unfold hstep; simp)]
    unfold headP
    rw [hR]
    simp only
    rw [if_pos ⟨by simpa using hlu.1, by omega⟩]
    have e2 : (l.map (fun f => (f.1, 32 :: f.2))).map trimF = l := by
      rw [List.map_map]
      conv => rhs; rw [← List.map_id l]
      refine List.map_congr_left fun f hf => ?_
      simp only [Function.comp, trimF, trim_pad (hok2 f hf).2.2.2, id]
    rw [e2]
    simp
  · simp at h

end Go.Ab.Tryd
