/- Walks: the laws on commands read and shown. -/
import Derived.Test.YthdnbgaehkifkaaDoorLCmd9e
import Derived.Test.YthdnbgaehkifkaaDoorLArgs24
set_option linter.unusedSimpArgs false
set_option linter.unusedVariables false
set_option maxHeartbeats 4000000
set_option maxRecDepth 4000
namespace Go.Ab.Tryd
open Go Go.Ab Go.Proofs
attribute [local irreducible] W Wl Wop TrA WSeq WLoopS FPost DPost RPost WRound DK onEnd
variable {n0 : Nat} {w0 : World} {gl : Nat → List AV} {H : List AO}
attribute [local simp] belowL_bytesAV

theorem commandParses_t (b : List UInt8) (hb : b.length ≤ 9223372036854775807) : AEnter (env n0 w0 gl) 3 [.sl b.length (bytesAV b) .ro] H (fun y H' => y = .ret (.bool true) ∧ H' = H) := by
  by_cases hl : b.length ≤ 700
  · refine enter (md := fun _ => 0) Tryd.func3 (fun hfit hgl => ?_)
    repeat' (first | refine go ?_ | (refine br (fun hc => ?_) (fun hc => ?_) <;> try (exfalso; omega)) | fail)
    all_goals exact .junkd ⟨rfl, rfl⟩
  · refine enter (md := fun _ => 0) Tryd.func3 (fun hfit hgl => ?_)
    repeat' (first | refine go ?_ | (refine br (fun hc => ?_) (fun hc => ?_) <;> try (exfalso; omega)) | fail)
    all_goals exact .now ⟨rfl, rfl⟩

instance cmdLine_t [ht : Tab10 n0 w0] (v n : Int) (t : List UInt8) : Ctr (env n0 w0 gl) 13 [.agg [.int .i64 v, .str t, .int .i64 n]] H (t.length ≤ 1000000 ∧ -9223372036854775808 ≤ n ∧ n ≤ 9223372036854775807) (.tup [.str (if tf (ShowOk v t n) then lineS v t n else []), .bool (tf (ShowOk v t n))]) H := .of fun ⟨hs, hn1, hn2⟩ => by
  by_cases hv : 1 ≤ v ∧ v ≤ 9
  · obtain ⟨hv1, hv2⟩ := hv
    have hcase : v = 1 ∨ v = 2 ∨ v = 3 ∨ v = 4 ∨ v = 5 ∨ v = 6 ∨ v = 7 ∨ v = 8 ∨ v = 9 := by omega
    have hil := Lib.itoa_length_le n hn1 hn2
    have hO := showOk_iff (v := v) (n := n) (t := t) ⟨hv1, hv2⟩
    rcases hcase with rfl | rfl | rfl | rfl | rfl | rfl | rfl | rfl | rfl
    · clear hv1 hv2
      simp only [lineS, Int.reduceEq, reduceIte] at hO ⊢
      refine enter (md := fun _ => 0) Tryd.func13 (fun hfit hgl => ?_)
      repeat' (first | refine go ?_ | (refine br (fun hc => ?_) (fun hc => ?_) <;> try (exfalso; omega)) | fail)
      all_goals first
          | (rw [tf_true (hO.2 (by simp_all; done))]; exact .junkd ⟨rfl, rfl⟩)
          | (rw [tf_false (fun h => by have := hO.1 h; simp_all; done)]; exact .junkd ⟨rfl, rfl⟩)
    · clear hv1 hv2
      simp only [lineS, Int.reduceEq, reduceIte] at hO ⊢
      refine enter (md := fun _ => 0) Tryd.func13 (fun hfit hgl => ?_)
      repeat' (first | refine go ?_ | (refine br (fun hc => ?_) (fun hc => ?_) <;> try (exfalso; omega)) | fail)
      all_goals first
          | (rw [tf_true (hO.2 (by simp_all; done))]; exact .junkd ⟨rfl, rfl⟩)
          | (rw [tf_false (fun h => by have := hO.1 h; simp_all; done)]; exact .junkd ⟨rfl, rfl⟩)
    · clear hv1 hv2
      simp only [lineS, Int.reduceEq, reduceIte] at hO ⊢
      by_cases hn : n = -1
      · subst hn
        simp only [reduceIte] at hO ⊢
        refine enter (md := fun _ => 0) Tryd.func13 (fun hfit hgl => ?_)
        repeat' (first | refine go ?_ | (refine br (fun hc => ?_) (fun hc => ?_) <;> try (exfalso; omega)) | fail)
        all_goals first
            | (rw [tf_true (hO.2 (by simp_all; done))]; exact .junkd ⟨rfl, rfl⟩)
            | (rw [tf_false (fun h => by have := hO.1 h; simp_all; done)]; exact .junkd ⟨rfl, rfl⟩)
      · simp only [if_neg hn] at hO ⊢
        have hh := hn
        refine enter (md := fun _ => 0) Tryd.func13 (fun hfit hgl => ?_)
        repeat' (first | refine go ?_ | (refine br (fun hc => ?_) (fun hc => ?_) <;> try (exfalso; omega)) | fail)
        all_goals first
            | (rw [tf_true (hO.2 (by simp_all; done))]; exact .junkd ⟨rfl, rfl⟩)
            | (rw [tf_false (fun h => by have := hO.1 h; simp_all; done)]; exact .junkd ⟨rfl, rfl⟩)
    · clear hv1 hv2
      simp only [lineS, Int.reduceEq, reduceIte] at hO ⊢
      refine enter (md := fun _ => 0) Tryd.func13 (fun hfit hgl => ?_)
      repeat' (first | refine go ?_ | (refine br (fun hc => ?_) (fun hc => ?_) <;> try (exfalso; omega)) | fail)
      all_goals first
          | (rw [tf_true (hO.2 (by simp_all; done))]; exact .junkd ⟨rfl, rfl⟩)
          | (rw [tf_false (fun h => by have := hO.1 h; simp_all; done)]; exact .junkd ⟨rfl, rfl⟩)
    · clear hv1 hv2
      simp only [lineS, Int.reduceEq, reduceIte] at hO ⊢
      refine enter (md := fun _ => 0) Tryd.func13 (fun hfit hgl => ?_)
      repeat' (first | refine go ?_ | (refine br (fun hc => ?_) (fun hc => ?_) <;> try (exfalso; omega)) | fail)
      all_goals first
          | (rw [tf_true (hO.2 (by simp_all; done))]; exact .junkd ⟨rfl, rfl⟩)
          | (rw [tf_false (fun h => by have := hO.1 h; simp_all; done)]; exact .junkd ⟨rfl, rfl⟩)
    · clear hv1 hv2
      simp only [lineS, Int.reduceEq, reduceIte] at hO ⊢
      refine enter (md := fun _ => 0) Tryd.func13 (fun hfit hgl => ?_)
      repeat' (first | refine go ?_ | (refine br (fun hc => ?_) (fun hc => ?_) <;> try (exfalso; omega)) | fail)
      all_goals first
          | (rw [tf_true (hO.2 (by simp_all; done))]; exact .junkd ⟨rfl, rfl⟩)
          | (rw [tf_false (fun h => by have := hO.1 h; simp_all; done)]; exact .junkd ⟨rfl, rfl⟩)
    · clear hv1 hv2
      simp only [lineS, Int.reduceEq, reduceIte] at hO ⊢
      refine enter (md := fun _ => 0) Tryd.func13 (fun hfit hgl => ?_)
      repeat' (first | refine go ?_ | (refine br (fun hc => ?_) (fun hc => ?_) <;> try (exfalso; omega)) | fail)
      all_goals first
          | (rw [tf_true (hO.2 (by simp_all; done))]; exact .junkd ⟨rfl, rfl⟩)
          | (rw [tf_false (fun h => by have := hO.1 h; simp_all; done)]; exact .junkd ⟨rfl, rfl⟩)
    · clear hv1 hv2
      simp only [lineS, Int.reduceEq, reduceIte] at hO ⊢
      refine enter (md := fun _ => 0) Tryd.func13 (fun hfit hgl => ?_)
      repeat' (first | refine go ?_ | (refine br (fun hc => ?_) (fun hc => ?_) <;> try (exfalso; omega)) | fail)
      all_goals first
          | (rw [tf_true (hO.2 (by simp_all; done))]; exact .junkd ⟨rfl, rfl⟩)
          | (rw [tf_false (fun h => by have := hO.1 h; simp_all; done)]; exact .junkd ⟨rfl, rfl⟩)
    · clear hv1 hv2
      simp only [lineS, Int.reduceEq, reduceIte] at hO ⊢
      refine enter (md := fun _ => 0) Tryd.func13 (fun hfit hgl => ?_)
      repeat' (first | refine go ?_ | (refine br (fun hc => ?_) (fun hc => ?_) <;> try (exfalso; omega)) | fail)
      all_goals first
          | (rw [tf_true (hO.2 (by simp_all; done))]; exact .junkd ⟨rfl, rfl⟩)
          | (rw [tf_false (fun h => by have := hO.1 h; simp_all; done)]; exact .junkd ⟨rfl, rfl⟩)
  · rw [tf_false fun h => hv h.1]
    have hP0 : ∀ H tok, Ctr (env n0 w0 gl) 9 [.sl 0 [] tok] H True (.tup [.agg [.int .i64 0, .str [], .int .i64 0], .int .i64 500]) H := fun H tok => .of fun _ => by
      have := cmdRef_e (n0 := n0) (w0 := w0) (gl := gl) (H := H) [] tok (by decide)
      rw [cmdP_nil] at this; exact this
    have hP1 : ∀ H tok, Ctr (env n0 w0 gl) 9 [.sl 0 (bytesAV []) tok] H True (.tup [.agg [.int .i64 0, .str [], .int .i64 0], .int .i64 500]) H := hP0
    have h1 : ¬ v = 1 := fun h => hv (by omega)
    have h2 : ¬ v = 2 := fun h => hv (by omega)
    have h3 : ¬ v = 3 := fun h => hv (by omega)
    have h4 : ¬ v = 4 := fun h => hv (by omega)
    have h5 : ¬ v = 5 := fun h => hv (by omega)
    have h6 : ¬ v = 6 := fun h => hv (by omega)
    have h7 : ¬ v = 7 := fun h => hv (by omega)
    have h8 : ¬ v = 8 := fun h => hv (by omega)
    have h9 : ¬ v = 9 := fun h => hv (by omega)
    have hh := And.intro h1 (And.intro h2 (And.intro h3 (And.intro h4 (And.intro h5 (And.intro h6 (And.intro h7 (And.intro h8 h9)))))))
    refine enter (md := fun _ => 0) Tryd.func13 (fun hfit hgl => ?_)
    repeat' (first | refine go ?_ | (refine br (fun hc => ?_) (fun hc => ?_) <;> try (exfalso; omega)) | fail)
    all_goals exact .junkd ⟨rfl, rfl⟩

theorem commandShows_t [ht : Tab10 n0 w0] (v : Int) (t : List UInt8) (n : Int) (hb0 : CmdBig t n) : AEnter (env n0 w0 gl) 5 [.agg [.int .i64 v, .str t, .int .i64 n]] H (fun y H' => y = .ret (.bool true) ∧ H' = H) := by
  obtain ⟨h1, h2, h3⟩ := hb0
  by_cases hl : t.length ≤ 600
  · refine enter (md := fun _ => 0) Tryd.func5 (fun hfit hgl => ?_)
    repeat' (first | refine go ?_ | (refine br (fun hc => ?_) (fun hc => ?_) <;> try (exfalso; omega)) | fail)
    all_goals exact .junkd ⟨rfl, rfl⟩
  · refine enter (md := fun _ => 0) Tryd.func5 (fun hfit hgl => ?_)
    repeat' (first | refine go ?_ | (refine br (fun hc => ?_) (fun hc => ?_) <;> try (exfalso; omega)) | fail)
    all_goals exact .junkd ⟨rfl, rfl⟩

end Go.Ab.Tryd
