/- Plain laws: numerals by the document. -/
import Derived.Test.YtpdjgbpmlckepaaDoorLNum
import Derived.Test.YtpdjgbpmlckepaaDoorSNum
set_option linter.unusedSimpArgs false
set_option linter.unusedVariables false
set_option maxHeartbeats 2000000
set_option maxRecDepth 4000
namespace Go.Ab.Tryd
open Go Go.Ab Go.Proofs

/-- Whether a numeral is one by the document. -/
def NumOk (s : List UInt8) : Prop := Fine s ∧ Lead s
open Classical in
noncomputable def numN (s : List UInt8) : Int := if Fine s then decVal s else 0
noncomputable def numB (s : List UInt8) : Bool := tf (NumOk s)
theorem numV_eq (s : List UInt8) : numV s = .tup [.int .i64 (numN s), .bool (numB s)] := by
  unfold numN numB NumOk
  by_cases h : Fine s
  · rw [numV_good h, if_pos h]
    by_cases h2 : Lead s
    · rw [tf_true h2, tf_true ⟨h, h2⟩]
    · rw [tf_false h2, tf_false (fun h => h2 h.2)]
  · rw [numV_bad h, if_neg h, tf_false (fun k => h k.1)]
theorem allDig_of {s : List UInt8} (h : ∀ c ∈ s, 48 ≤ c.toNat ∧ c.toNat ≤ 57) : AllDig s := fun i hi => by
  rw [List.getD_eq_getElem?_getD, List.getElem?_eq_getElem hi]
  exact h _ (List.getElem_mem _)
theorem numOk_itoa {n : Int} (h0 : 0 ≤ n) (h1 : n ≤ 9223372036854775807) : NumOk (Lib.itoa n) ∧ (decVal (Lib.itoa n) : Int) = n := by
  have hd := itoa_digs h0
  obtain ⟨u, rfl⟩ : ∃ u : Nat, n = (u : Int) := ⟨n.toNat, by omega⟩
  rw [Lib.itoa_nonneg] at hd ⊢
  have hv : decVal (Lib.decDigits u) = u := sn_val u
  refine ⟨⟨⟨allDig_of hd, by rw [hv]; omega⟩, sn_ne u, ?_⟩, by rw [hv]⟩
  clear hv hd h0 h1
  induction u using Nat.strongRecOn with
  | _ u ih =>
    rw [sn_unfold]
    split
    · rename_i h
      by_cases h0 : u = 0
      · subst h0; right; rfl
      · left
        simp only [List.getD_cons_zero]
        intro e
        have := congrArg UInt8.toNat e
        rw [sn_nat h] at this
        have : (48 : UInt8).toNat = 48 := rfl
        omega
    · rename_i h
      left
      have hne := sn_ne (u / 10)
      rcases ih (u / 10) (by omega) with h1 | h1
      · intro e; apply h1
        cases hs : Lib.decDigits (u / 10) with
        | nil => exact absurd hs hne
        | cons c r => rw [hs] at e; simpa using e
      · exfalso
        have h2 := sn_val (u / 10)
        rw [h1] at h2
        have : ([48] : List UInt8).foldl (fun n c => 10 * n + (c.toNat - 48)) 0 = 0 := by decide
        omega

end Go.Ab.Tryd
