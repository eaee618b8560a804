/- Walks: a command shown; the laws on verbs and on both ways. -/
import Derived.Test.YthdnbgaehkifkaaDoorLCmd5
import Derived.Lib.ItoaLen
set_option linter.unusedSimpArgs false
set_option linter.unusedVariables false
set_option maxHeartbeats 4000000
set_option maxRecDepth 4000
namespace Go.Ab.Tryd
open Go Go.Ab Go.Proofs
attribute [local irreducible] W Wl Wop TrA WSeq WLoopS FPost DPost RPost WRound DK onEnd
variable {n0 : Nat} {w0 : World} {gl : Nat → List AV} {H : List AO}
attribute [local simp] belowL_bytesAV

/-- The line of a command. -/
def lineS (v : Int) (t : List UInt8) (n : Int) : List UInt8 :=
  if v = 1 then 72 :: 69 :: 76 :: 79 :: 32 :: t
  else if v = 2 then 69 :: 72 :: 76 :: 79 :: 32 :: t
  else if v = 3 then 77 :: 65 :: 73 :: 76 :: 32 :: 70 :: 82 :: 79 :: 77 :: 58 :: 60 :: (t ++ 62 :: (if n = -1 then [] else 32 :: 83 :: 73 :: 90 :: 69 :: 61 :: Lib.itoa n))
  else if v = 4 then 82 :: 67 :: 80 :: 84 :: 32 :: 84 :: 79 :: 58 :: 60 :: (t ++ [62])
  else if v = 5 then [68, 65, 84, 65]
  else if v = 6 then [82, 83, 69, 84]
  else if v = 7 then [78, 79, 79, 80]
  else if v = 8 then [81, 85, 73, 84]
  else if v = 9 then [86, 82, 70, 89]
  else []
/-- A command may be shown. -/
def ShowOk (v : Int) (t : List UInt8) (n : Int) : Prop := (1 ≤ v ∧ v ≤ 9) ∧ (cmdP (lineS v t n)).2.2.2 = 0 ∧ (cmdP (lineS v t n)).1 = v ∧ (cmdP (lineS v t n)).2.1 = t ∧ (cmdP (lineS v t n)).2.2.1 = n

theorem showOk_iff {v n : Int} {t : List UInt8} (hv : 1 ≤ v ∧ v ≤ 9) : ShowOk v t n ↔ (cmdP (lineS v t n)).2.2.2 = 0 ∧ (cmdP (lineS v t n)).1 = v ∧ (cmdP (lineS v t n)).2.1 = t ∧ (cmdP (lineS v t n)).2.2.1 = n := ⟨fun h => h.2, fun h => ⟨hv, h⟩⟩

instance pathShow_t (s : List UInt8) : Ctr (env n0 w0 gl) 23 [.str s] H (s.length ≤ 1000000) (.str (60 :: (s ++ [62]))) H := .of fun hs => by
  refine enter (md := fun _ => 0) Tryd.func23 (fun hfit hgl => ?_)
  repeat' (first | refine go ?_ | (refine br (fun hc => ?_) (fun hc => ?_) <;> try (exfalso; omega)) | fail)
  exact .now ⟨rfl, rfl⟩

instance cmdShow_t [ht : Tab10 n0 w0] (v n : Int) (t : List UInt8) : Ctr (env n0 w0 gl) 12 [.agg [.int .i64 v, .str t, .int .i64 n]] H (t.length ≤ 1000000 ∧ -9223372036854775808 ≤ n ∧ n ≤ 9223372036854775807) (.tup [.str (if tf (ShowOk v t n) then lineS v t n else []), .bool (tf (ShowOk v t n))]) H := .of fun ⟨hs, hn1, hn2⟩ => by
  by_cases hv : 1 ≤ v ∧ v ≤ 9
  · obtain ⟨hv1, hv2⟩ := hv
    have hcase : v = 1 ∨ v = 2 ∨ v = 3 ∨ v = 4 ∨ v = 5 ∨ v = 6 ∨ v = 7 ∨ v = 8 ∨ v = 9 := by omega
    have hil := Lib.itoa_length_le n hn1 hn2
    have hO := showOk_iff (v := v) (n := n) (t := t) ⟨hv1, hv2⟩
    rcases hcase with rfl | rfl | rfl | rfl | rfl | rfl | rfl | rfl | rfl
    · clear hv1 hv2
      simp only [lineS, Int.reduceEq, reduceIte] at hO ⊢
      refine enter (md := fun _ => 0) Tryd.func12 (fun hfit hgl => ?_)
      repeat' (first | refine go ?_ | (refine br (fun hc => ?_) (fun hc => ?_) <;> try (exfalso; omega)) | fail)
      all_goals first
          | (rw [tf_true (hO.2 (by simp_all; done))]; exact .junkd ⟨rfl, rfl⟩)
          | (rw [tf_false (fun h => by have := hO.1 h; simp_all; done)]; exact .junkd ⟨rfl, rfl⟩)
    · clear hv1 hv2
      simp only [lineS, Int.reduceEq, reduceIte] at hO ⊢
      refine enter (md := fun _ => 0) Tryd.func12 (fun hfit hgl => ?_)
      repeat' (first | refine go ?_ | (refine br (fun hc => ?_) (fun hc => ?_) <;> try (exfalso; omega)) | fail)
      all_goals first
          | (rw [tf_true (hO.2 (by simp_all; done))]; exact .junkd ⟨rfl, rfl⟩)
          | (rw [tf_false (fun h => by have := hO.1 h; simp_all; done)]; exact .junkd ⟨rfl, rfl⟩)
    · clear hv1 hv2
      simp only [lineS, Int.reduceEq, reduceIte] at hO ⊢
      by_cases hn : n = -1
      · subst hn
        simp only [reduceIte] at hO ⊢
        refine enter (md := fun _ => 0) Tryd.func12 (fun hfit hgl => ?_)
        repeat' (first | refine go ?_ | (refine br (fun hc => ?_) (fun hc => ?_) <;> try (exfalso; omega)) | fail)
        all_goals first
            | (rw [tf_true (hO.2 (by simp_all; done))]; exact .junkd ⟨rfl, rfl⟩)
            | (rw [tf_false (fun h => by have := hO.1 h; simp_all; done)]; exact .junkd ⟨rfl, rfl⟩)
      · simp only [if_neg hn] at hO ⊢
        have hh := hn
        refine enter (md := fun _ => 0) Tryd.func12 (fun hfit hgl => ?_)
        repeat' (first | refine go ?_ | (refine br (fun hc => ?_) (fun hc => ?_) <;> try (exfalso; omega)) | fail)
        all_goals first
            | (rw [tf_true (hO.2 (by simp_all; done))]; exact .junkd ⟨rfl, rfl⟩)
            | (rw [tf_false (fun h => by have := hO.1 h; simp_all; done)]; exact .junkd ⟨rfl, rfl⟩)
    · clear hv1 hv2
      simp only [lineS, Int.reduceEq, reduceIte] at hO ⊢
      refine enter (md := fun _ => 0) Tryd.func12 (fun hfit hgl => ?_)
      repeat' (first | refine go ?_ | (refine br (fun hc => ?_) (fun hc => ?_) <;> try (exfalso; omega)) | fail)
      all_goals first
          | (rw [tf_true (hO.2 (by simp_all; done))]; exact .junkd ⟨rfl, rfl⟩)
          | (rw [tf_false (fun h => by have := hO.1 h; simp_all; done)]; exact .junkd ⟨rfl, rfl⟩)
    · clear hv1 hv2
      simp only [lineS, Int.reduceEq, reduceIte] at hO ⊢
      refine enter (md := fun _ => 0) Tryd.func12 (fun hfit hgl => ?_)
      repeat' (first | refine go ?_ | (refine br (fun hc => ?_) (fun hc => ?_) <;> try (exfalso; omega)) | fail)
      all_goals first
          | (rw [tf_true (hO.2 (by simp_all; done))]; exact .junkd ⟨rfl, rfl⟩)
          | (rw [tf_false (fun h => by have := hO.1 h; simp_all; done)]; exact .junkd ⟨rfl, rfl⟩)
    · clear hv1 hv2
      simp only [lineS, Int.reduceEq, reduceIte] at hO ⊢
      refine enter (md := fun _ => 0) Tryd.func12 (fun hfit hgl => ?_)
      repeat' (first | refine go ?_ | (refine br (fun hc => ?_) (fun hc => ?_) <;> try (exfalso; omega)) | fail)
      all_goals first
          | (rw [tf_true (hO.2 (by simp_all; done))]; exact .junkd ⟨rfl, rfl⟩)
          | (rw [tf_false (fun h => by have := hO.1 h; simp_all; done)]; exact .junkd ⟨rfl, rfl⟩)
    · clear hv1 hv2
      simp only [lineS, Int.reduceEq, reduceIte] at hO ⊢
      refine enter (md := fun _ => 0) Tryd.func12 (fun hfit hgl => ?_)
      repeat' (first | refine go ?_ | (refine br (fun hc => ?_) (fun hc => ?_) <;> try (exfalso; omega)) | fail)
      all_goals first
          | (rw [tf_true (hO.2 (by simp_all; done))]; exact .junkd ⟨rfl, rfl⟩)
          | (rw [tf_false (fun h => by have := hO.1 h; simp_all; done)]; exact .junkd ⟨rfl, rfl⟩)
    · clear hv1 hv2
      simp only [lineS, Int.reduceEq, reduceIte] at hO ⊢
      refine enter (md := fun _ => 0) Tryd.func12 (fun hfit hgl => ?_)
      repeat' (first | refine go ?_ | (refine br (fun hc => ?_) (fun hc => ?_) <;> try (exfalso; omega)) | fail)
      all_goals first
          | (rw [tf_true (hO.2 (by simp_all; done))]; exact .junkd ⟨rfl, rfl⟩)
          | (rw [tf_false (fun h => by have := hO.1 h; simp_all; done)]; exact .junkd ⟨rfl, rfl⟩)
    · clear hv1 hv2
      simp only [lineS, Int.reduceEq, reduceIte] at hO ⊢
      refine enter (md := fun _ => 0) Tryd.func12 (fun hfit hgl => ?_)
      repeat' (first | refine go ?_ | (refine br (fun hc => ?_) (fun hc => ?_) <;> try (exfalso; omega)) | fail)
      all_goals first
          | (rw [tf_true (hO.2 (by simp_all; done))]; exact .junkd ⟨rfl, rfl⟩)
          | (rw [tf_false (fun h => by have := hO.1 h; simp_all; done)]; exact .junkd ⟨rfl, rfl⟩)
  · rw [tf_false fun h => hv h.1]
    refine enter (md := fun _ => 0) Tryd.func12 (fun hfit hgl => ?_)
    repeat' (first | refine go ?_ | (refine br (fun hc => ?_) (fun hc => ?_) <;> try (exfalso; omega)) | fail)
    all_goals exact .junkd ⟨rfl, rfl⟩

end Go.Ab.Tryd
