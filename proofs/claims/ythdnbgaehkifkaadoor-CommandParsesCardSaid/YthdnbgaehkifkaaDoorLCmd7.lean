/- Walks: the laws on verbs and on both ways. -/
import Derived.Test.YthdnbgaehkifkaaDoorLCmd6
set_option linter.unusedSimpArgs false
set_option linter.unusedVariables false
set_option maxHeartbeats 4000000
set_option maxRecDepth 4000
namespace Go.Ab.Tryd
open Go Go.Ab Go.Proofs
attribute [local irreducible] W Wl Wop TrA WSeq WLoopS FPost DPost RPost WRound DK onEnd
variable {n0 : Nat} {w0 : World} {gl : Nat → List AV} {H : List AO}
attribute [local simp] belowL_bytesAV

theorem awake_ap : apR [70, 82, 79, 77, 58] [102, 114, 111, 109, 58, 60, 97, 64, 98, 62, 32, 115, 105, 122, 101, 61, 53] = some ([97, 64, 98], [32, 115, 105, 122, 101, 61, 53]) := by
  have h1 : skipR [70, 82, 79, 77, 58] [102, 114, 111, 109, 58, 60, 97, 64, 98, 62, 32, 115, 105, 122, 101, 61, 53] = some [60, 97, 64, 98, 62, 32, 115, 105, 122, 101, 61, 53] := by decide +kernel
  have h2 : cutAt 62 (([60, 97, 64, 98, 62, 32, 115, 105, 122, 101, 61, 53] : List UInt8).drop 1) = some ([97, 64, 98], [32, 115, 105, 122, 101, 61, 53]) := by decide +kernel
  unfold apR
  rw [h1]
  simp only [Option.bind_some]
  unfold pathR
  rw [h2, if_pos (by decide +kernel)]
  simp only
  rw [tf_true (.inr mail_ab)]
  rfl
theorem awake_size : sizeR [32, 115, 105, 122, 101, 61, 53] = some 5 := by
  have h1 : skipR [32, 83, 73, 90, 69, 61] [32, 115, 105, 122, 101, 61, 53] = some [53] := by decide +kernel
  unfold sizeR
  rw [if_neg (by decide), h1]
  simp only
  rw [tf_true ⟨by decide, by decide, by intro c hc; simp only [List.mem_singleton] at hc; subst hc; decide⟩]
  rfl
theorem cmdP_awake : cmdP [109, 97, 105, 108, 32, 102, 114, 111, 109, 58, 60, 97, 64, 98, 62, 32, 115, 105, 122, 101, 61, 53] = (3, [97, 64, 98], 5, 0) := by
  have hc : cutB [109, 97, 105, 108, 32, 102, 114, 111, 109, 58, 60, 97, 64, 98, 62, 32, 115, 105, 122, 101, 61, 53] = ([109, 97, 105, 108], [102, 114, 111, 109, 58, 60, 97, 64, 98, 62, 32, 115, 105, 122, 101, 61, 53]) := by decide +kernel
  have hv : verbU (([109, 97, 105, 108] : List UInt8).map upB) = 3 := by decide +kernel
  unfold cmdP
  rw [tf_true ⟨by decide, by unfold Clean; decide +kernel⟩, hc]
  simp only [hv]
  have hB : fillB 3 [102, 114, 111, 109, 58, 60, 97, 64, 98, 62, 32, 115, 105, 122, 101, 61, 53] = true := by
    unfold fillB; rw [if_neg (by omega), if_pos rfl, awake_ap]; simp only; rw [awake_size]; rfl
  have hT : fillT 3 [102, 114, 111, 109, 58, 60, 97, 64, 98, 62, 32, 115, 105, 122, 101, 61, 53] = [97, 64, 98] := by
    unfold fillT; rw [if_neg (by omega), if_pos rfl, awake_ap]
  have hN : fillN 3 [102, 114, 111, 109, 58, 60, 97, 64, 98, 62, 32, 115, 105, 122, 101, 61, 53] = 5 := by
    unfold fillN; rw [if_pos rfl, awake_ap]; simp only; rw [awake_size]; rfl
  rw [hB, hT, hN]
  rfl

instance awake24_t : Ctr (env n0 w0 gl) 7 [] H True (.bool true) H := .of fun _ => by
  have hE : ∀ H tok, Ctr (env n0 w0 gl) 8 [.sl 22 [.int .u8 109, .int .u8 97, .int .u8 105, .int .u8 108, .int .u8 32, .int .u8 102, .int .u8 114, .int .u8 111, .int .u8 109, .int .u8 58, .int .u8 60, .int .u8 97, .int .u8 64, .int .u8 98, .int .u8 62, .int .u8 32, .int .u8 115, .int .u8 105, .int .u8 122, .int .u8 101, .int .u8 61, .int .u8 53] tok] H True (.tup [.agg [.int .i64 3, .str [97, 64, 98], .int .i64 5], .int .i64 0]) H := fun H tok => .of fun _ => by
    have := cmdParse_e (n0 := n0) (w0 := w0) (gl := gl) (H := H) [109, 97, 105, 108, 32, 102, 114, 111, 109, 58, 60, 97, 64, 98, 62, 32, 115, 105, 122, 101, 61, 53] tok (by decide)
    rw [cmdP_awake] at this
    exact this
  refine enter (md := fun t => if t = 4 then 2 else 0) Tryd.func7 (fun hfit hgl => ?_)
  repeat' (first | refine go ?_ | (refine br (fun hc => ?_) (fun hc => ?_) <;> try (exfalso; omega)) | fail)
  exact .junkd ⟨rfl, rfl⟩

theorem commandVerbs_t (s : List UInt8) (hs : s.length ≤ 9223372036854775807) : AEnter (env n0 w0 gl) 4 [.str s] H (fun y H' => y = .ret (.bool true) ∧ H' = H) := by
  have hh := verb_same s
  by_cases hl : s.length ≤ 100
  · refine enter (md := fun _ => 0) Tryd.func4 (fun hfit hgl => ?_)
    repeat' (first | refine go ?_ | (refine br (fun hc => ?_) (fun hc => ?_) <;> try (exfalso; omega)) | fail)
    all_goals exact .now ⟨rfl, rfl⟩
  · refine enter (md := fun _ => 0) Tryd.func4 (fun hfit hgl => ?_)
    repeat' (first | refine go ?_ | (refine br (fun hc => ?_) (fun hc => ?_) <;> try (exfalso; omega)) | fail)
    all_goals exact .now ⟨rfl, rfl⟩

theorem cmdP_err (b : List UInt8) : (cmdP b).2.2.2 = 0 ∨ ((cmdP b).1 = 0 ∧ (cmdP b).2.1 = [] ∧ (cmdP b).2.2.1 = 0) := by
  unfold cmdP
  split
  · split
    · simp
    · split
      · simp
      · simp
  · simp
theorem sizeR_range {s : List UInt8} {n : Int} (h : sizeR s = some n) : -1 ≤ n ∧ n ≤ 999999999999999999 := by
  unfold sizeR at h
  split at h
  · injection h with h; omega
  · split at h
    · cases h
    · rename_i r hr
      split at h
      · rename_i ht
        injection h with h
        have ht2 : r ≠ [] ∧ r.length ≤ 18 ∧ Digs r := by
          by_cases hp : r ≠ [] ∧ r.length ≤ 18 ∧ Digs r
          · exact hp
          · rw [tf_false hp] at ht; cases ht
        have := decVal_18 ht2.2.2 ht2.2.1
        omega
      · cases h
theorem fillT_len (v : Int) (s : List UInt8) : (fillT v s).length ≤ s.length := by
  unfold fillT
  split
  · exact Nat.le_refl _
  · split
    · split
      · simp
      · rename_i x y h; exact (apR_len h).1
    · split
      · split
        · simp
        · rename_i x y h; exact (apR_len h).1
      · simp
theorem fillN_range (v : Int) (s : List UInt8) : -1 ≤ fillN v s ∧ fillN v s ≤ 999999999999999999 := by
  unfold fillN
  split
  · split
    · omega
    · rename_i x y h
      cases hz : sizeR y with
      | none => simp
      | some n => have := sizeR_range hz; simpa using this
  · omega
theorem cmdP_fits (b : List UInt8) : (cmdP b).2.1.length ≤ b.length ∧ -1 ≤ (cmdP b).2.2.1 ∧ (cmdP b).2.2.1 ≤ 999999999999999999 := by
  have hc := cutB_len b
  have h1 := fillT_len (verbU ((cutB b).1.map upB)) (cutB b).2
  have h2 := fillN_range (verbU ((cutB b).1.map upB)) (cutB b).2
  unfold cmdP
  split
  · split
    · simp
    · split
      · simp only; omega
      · simp
  · simp
theorem cmdP_nil : cmdP [] = (0, [], 0, 500) := by
  unfold cmdP
  have hc : cutB [] = ([], []) := by decide
  have hv : verbU (([] : List UInt8).map upB) = 0 := by decide
  rw [tf_true ⟨by decide, by intro i hi; simp at hi⟩, hc]
  simp only [hv]
  rfl
theorem lineS_len {v n : Int} {t : List UInt8} (hn1 : -9223372036854775808 ≤ n) (hn2 : n ≤ 9223372036854775807) : (lineS v t n).length ≤ t.length + 100 := by
  have hil := Lib.itoa_length_le n hn1 hn2
  unfold lineS
  repeat' split
  all_goals simp only [List.length_cons, List.length_append, List.length_nil]
  all_goals omega

end Go.Ab.Tryd
