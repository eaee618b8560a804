/- Walks: a command read. -/
import Derived.Test.YthdnbgaehkifkaaDoorLCmd3
set_option linter.unusedSimpArgs false
set_option linter.unusedVariables false
set_option maxHeartbeats 4000000
set_option maxRecDepth 4000
namespace Go.Ab.Tryd
open Go Go.Ab Go.Proofs
attribute [local irreducible] W Wl Wop TrA WSeq WLoopS FPost DPost RPost WRound DK onEnd
variable {n0 : Nat} {w0 : World} {gl : Nat → List AV} {H : List AO}
attribute [local simp] belowL_bytesAV

/-- What stands behind a verb: is it good; its text, its size, what is left. -/
noncomputable def fillB (v : Int) (s : List UInt8) : Bool :=
  if v = 1 ∨ v = 2 then tf (DomainOk s)
  else if v = 3 then (match apR [70, 82, 79, 77, 58] s with
    | none => false
    | some (_, y) => (sizeR y).isSome)
  else if v = 4 then (match apR [84, 79, 58] s with
    | none => false
    | some (x, y) => decide (x ≠ []) && decide (y = []))
  else if v = 7 ∨ v = 9 then true
  else decide (s = [])
noncomputable def fillT (v : Int) (s : List UInt8) : List UInt8 :=
  if v = 1 ∨ v = 2 then s
  else if v = 3 then (match apR [70, 82, 79, 77, 58] s with
    | none => []
    | some (x, _) => x)
  else if v = 4 then (match apR [84, 79, 58] s with
    | none => []
    | some (x, _) => x)
  else []
noncomputable def fillN (v : Int) (s : List UInt8) : Int :=
  if v = 3 then (match apR [70, 82, 79, 77, 58] s with
    | none => 0
    | some (_, y) => (sizeR y).getD 0)
  else 0
noncomputable def fillL (v : Int) (s : List UInt8) : List UInt8 :=
  if v = 3 then (match apR [70, 82, 79, 77, 58] s with
    | none => apL [70, 82, 79, 77, 58] s
    | some (_, y) => sizeL y)
  else if v = 4 then apL [84, 79, 58] s
  else s
theorem apR_len {what s x y : List UInt8} (h : apR what s = some (x, y)) : x.length ≤ s.length ∧ y.length ≤ s.length := by
  unfold apR at h
  cases hr : skipR what s with
  | none => rw [hr] at h; cases h
  | some r =>
    have h1 := skipR_len hr
    rw [hr] at h
    simp only [Option.bind_some] at h
    unfold pathR at h
    split at h
    · cases hc : cutAt 62 (r.drop 1) with
      | none => rw [hc] at h; cases h
      | some q =>
        obtain ⟨a, b⟩ := q
        rw [hc] at h
        simp only at h
        have h2 := cutAt_len hc
        rw [List.length_drop] at h2
        split at h
        · injection h with h
          injection h with e1 e2
          subst e1; subst e2
          omega
        · cases h
    · cases h

theorem junk4 (H : List AO) (a b c d : AO) : H ++ [a, b, c, d] = (H ++ [a, b, c]) ++ [d] := by simp
theorem fit4 {A B : AO} {v n : Int} {s t l : List UInt8} (h : Fit (H ++ [A, B, .cells [.str s]]).length (H ++ [A, B, .cells [.str s]])) : Fit (H ++ [A, .cells [.int .i64 v, .str t, .int .i64 n], .cells [.str l]]).length (H ++ [A, .cells [.int .i64 v, .str t, .int .i64 n], .cells [.str l]]) := by
  intro o ho
  have hl : (H ++ [A, .cells [.int .i64 v, .str t, .int .i64 n], .cells [.str l]]).length = (H ++ [A, B, .cells [.str s]]).length := by simp
  rw [hl]
  rcases List.mem_append.1 ho with ho | ho
  · exact h o (List.mem_append_left _ ho)
  · rcases List.mem_cons.1 ho with rfl | ho
    · exact h _ (List.mem_append_right _ (List.mem_cons_self ..))
    · rcases List.mem_cons.1 ho with rfl | ho
      · rfl
      · rcases List.mem_cons.1 ho with rfl | ho
        · rfl
        · cases ho
instance fill_t (A : AO) (v : Int) (s : List UInt8) : Ctr (env n0 w0 gl) 15 [.ref (H.length + 2) 0, .ref (H.length + 1) 0] (H ++ [A, .cells [.int .i64 v, .str [], .int .i64 0], .cells [.str s]]) (s.length ≤ 1000000 ∧ 1 ≤ v ∧ v ≤ 9) (.bool (fillB v s)) (H ++ [A, .cells [.int .i64 v, .str (fillT v s), .int .i64 (fillN v s)], .cells [.str (fillL v s)]]) := .of fun ⟨hs, hv1, hv2⟩ => by
  have hcase : v = 1 ∨ v = 2 ∨ v = 3 ∨ v = 4 ∨ v = 5 ∨ v = 6 ∨ v = 7 ∨ v = 8 ∨ v = 9 := by omega
  rcases hcase with rfl | rfl | rfl | rfl | rfl | rfl | rfl | rfl | rfl
  · simp only [fillB, fillT, fillN, fillL, Int.reduceEq, reduceIte, or_true, true_or, or_false, false_or, or_self]
    clear hv1 hv2
    refine enter (md := fun _ => 0) Tryd.func15 (fun hfit hgl => ?_)
    repeat' (first | refine go ?_ | (refine br (fun hc => ?_) (fun hc => ?_) <;> try (exfalso; omega)) | fail)
    rw [junk4]; exact .junkd (hf := fit4 hfit) ⟨rfl, rfl⟩
  · simp only [fillB, fillT, fillN, fillL, Int.reduceEq, reduceIte, or_true, true_or, or_false, false_or, or_self]
    clear hv1 hv2
    refine enter (md := fun _ => 0) Tryd.func15 (fun hfit hgl => ?_)
    repeat' (first | refine go ?_ | (refine br (fun hc => ?_) (fun hc => ?_) <;> try (exfalso; omega)) | fail)
    rw [junk4]; exact .junkd (hf := fit4 hfit) ⟨rfl, rfl⟩
  · simp only [fillB, fillT, fillN, fillL, Int.reduceEq, reduceIte, or_true, true_or, or_false, false_or, or_self]
    clear hv1 hv2
    have hp := fun A B D => path4_t (n0 := n0) (w0 := w0) (gl := gl) (H := H) A B D [70, 82, 79, 77, 58] s
    unfold apV at hp
    cases hq : apR [70, 82, 79, 77, 58] s with
    | none =>
      simp only [hq] at hp ⊢
      refine enter (md := fun _ => 0) Tryd.func15 (fun hfit hgl => ?_)
      repeat' (first | refine go ?_ | (refine br (fun hc => ?_) (fun hc => ?_) <;> try (exfalso; omega)) | fail)
      rw [junk4]; exact .junkd (hf := fit4 hfit) ⟨rfl, rfl⟩
    | some q =>
      obtain ⟨x, y⟩ := q
      have hyl := apR_len hq
      have hL : apL [70, 82, 79, 77, 58] s = y := by unfold apL; rw [hq]
      rw [hL] at hp
      simp only [hq] at hp ⊢
      have hz := fun A B D => size4_t (n0 := n0) (w0 := w0) (gl := gl) (H := H) A B D y
      unfold sizeV at hz
      cases hn : sizeR y with
      | none =>
        simp only [hn] at hz
        refine enter (md := fun _ => 0) Tryd.func15 (fun hfit hgl => ?_)
        repeat' (first | refine go ?_ | (refine br (fun hc => ?_) (fun hc => ?_) <;> try (exfalso; omega)) | fail)
        rw [junk4]; exact .junkd (hf := fit4 hfit) ⟨rfl, rfl⟩
      | some n =>
        simp only [hn] at hz
        refine enter (md := fun _ => 0) Tryd.func15 (fun hfit hgl => ?_)
        repeat' (first | refine go ?_ | (refine br (fun hc => ?_) (fun hc => ?_) <;> try (exfalso; omega)) | fail)
        rw [junk4]; exact .junkd (hf := fit4 hfit) ⟨rfl, rfl⟩
  · simp only [fillB, fillT, fillN, fillL, Int.reduceEq, reduceIte, or_true, true_or, or_false, false_or, or_self]
    clear hv1 hv2
    have hp := fun A B D => path4_t (n0 := n0) (w0 := w0) (gl := gl) (H := H) A B D [84, 79, 58] s
    unfold apV at hp
    cases hq : apR [84, 79, 58] s with
    | none =>
      simp only [hq] at hp ⊢
      refine enter (md := fun _ => 0) Tryd.func15 (fun hfit hgl => ?_)
      repeat' (first | refine go ?_ | (refine br (fun hc => ?_) (fun hc => ?_) <;> try (exfalso; omega)) | fail)
      all_goals (rw [junk4]; exact .junkd (hf := fit4 hfit) ⟨rfl, rfl⟩)
    | some q =>
      obtain ⟨x, y⟩ := q
      have hyl := apR_len hq
      have hL : apL [84, 79, 58] s = y := by unfold apL; rw [hq]
      rw [hL] at hp ⊢
      simp only [hq] at hp ⊢
      by_cases hx : x = []
      · subst hx
        refine enter (md := fun _ => 0) Tryd.func15 (fun hfit hgl => ?_)
        repeat' (first | refine go ?_ | (refine br (fun hc => ?_) (fun hc => ?_) <;> try (exfalso; omega)) | fail)
        all_goals (rw [junk4]; exact .junkd (hf := fit4 hfit) ⟨rfl, rfl⟩)
      · have hxl : x.length ≠ 0 := fun h => hx (List.length_eq_zero_iff.1 h)
        have hh := And.intro hx hxl
        refine enter (md := fun _ => 0) Tryd.func15 (fun hfit hgl => ?_)
        repeat' (first | refine go ?_ | (refine br (fun hc => ?_) (fun hc => ?_) <;> try (exfalso; omega)) | fail)
        all_goals (rw [junk4]; exact .junkd (hf := fit4 hfit) ⟨by simp [hx], rfl⟩)
  all_goals
    simp only [fillB, fillT, fillN, fillL, Int.reduceEq, reduceIte, or_true, true_or, or_false, false_or, or_self]
    clear hv1 hv2
    refine enter (md := fun _ => 0) Tryd.func15 (fun hfit hgl => ?_)
    repeat' (first | refine go ?_ | (refine br (fun hc => ?_) (fun hc => ?_) <;> try (exfalso; omega)) | fail)
    rw [junk4]; exact .junkd (hf := fit4 hfit) ⟨rfl, rfl⟩

end Go.Ab.Tryd
