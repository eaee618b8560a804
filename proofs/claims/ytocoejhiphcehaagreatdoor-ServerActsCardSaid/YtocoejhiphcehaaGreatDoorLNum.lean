/- Walks: a number read. -/
import Derived.Test.YtocoejhiphcehaaGreatDoorLPath
set_option linter.unusedSimpArgs false
set_option linter.unusedVariables false
set_option maxHeartbeats 4000000
set_option maxRecDepth 4000
namespace Go.Ab.Tryz
open Go Go.Ab Go.Proofs
attribute [local irreducible] W Wl Wop TrA WSeq WLoopS FPost DPost RPost WRound DK onEnd
variable {n0 : Nat} {w0 : World} {gl : Nat → List AV} {H : List AO}
attribute [local simp] belowL_bytesAV

/-- Decimal digits, read. -/
def decVal (s : List UInt8) : Nat := s.foldl (fun n c => 10 * n + (c.toNat - 48)) 0
def AllDig (s : List UInt8) : Prop := ∀ i, i < s.length → 48 ≤ (s.getD i 0).toNat ∧ (s.getD i 0).toNat ≤ 57
theorem decVal_succ {s : List UInt8} {i : Nat} (h : i < s.length) : decVal (s.take (i + 1)) = 10 * decVal (s.take i) + ((s.getD i 0).toNat - 48) := by
  rw [List.take_add_one, List.getElem?_eq_getElem h]
  simp only [Option.toList_some, decVal, List.foldl_append, List.foldl_cons, List.foldl_nil, List.getD_eq_getElem?_getD, List.getElem?_eq_getElem h, Option.getD_some]
theorem decVal_mono (s : List UInt8) : ∀ i, decVal (s.take i) ≤ decVal s := by
  have key : ∀ (l : List UInt8) (n : Nat), n ≤ l.foldl (fun n c => 10 * n + (c.toNat - 48)) n := by
    intro l
    induction l with
    | nil => intro n; exact Nat.le_refl _
    | cons c l ih => intro n; exact Nat.le_trans (show n ≤ 10 * n + (c.toNat - 48) by omega) (ih _)
  intro i
  conv => rhs; rw [← List.take_append_drop i s]
  unfold decVal
  rw [List.foldl_append]
  exact key _ _
/-- Digits whose number fits. -/
def Fine (s : List UInt8) : Prop := AllDig s ∧ decVal s ≤ 9223372036854775807
/-- Without noughts ahead. -/
def Lead (s : List UInt8) : Prop := s ≠ [] ∧ (s.getD 0 0 ≠ 48 ∨ s = [48])
open Classical in
noncomputable def numV (s : List UInt8) : AV := if Fine s then .tup [.int .i64 (decVal s), .bool (tf (Lead s))] else .tup [.int .i64 0, .bool false]

theorem numV_bad {s : List UInt8} (h : ¬ Fine s) : numV s = .tup [.int .i64 0, .bool false] := by unfold numV; rw [if_neg h]
theorem numV_good {s : List UInt8} (h : Fine s) : numV s = .tup [.int .i64 (decVal s), .bool (tf (Lead s))] := by unfold numV; rw [if_pos h]
theorem room10 {d : Int} (h1 : 0 ≤ d) (h2 : d ≤ 9) : IntKind.i64.wrap ((9223372036854775807 - d).tdiv 10) = (9223372036854775807 - d) / 10 := by
  rw [Int.tdiv_eq_ediv_of_nonneg (by omega), wrap_i64 (by omega) (by omega)]

theorem number_e (s : List UInt8) (hs : s.length ≤ 9223372036854775807) : AEnter (env n0 w0 gl) 72 [.str s] H (fun y H' => y = .ret (numV s) ∧ H' = H) := by
  refine enter (md := fun _ => 0) Tryz.func72 (fun hfit hgl => ?_)
  repeat' (first | refine go ?_ | (refine br (fun hc => ?_) (fun hc => ?_) <;> try (exfalso; omega)) | fail)
  refine loop0 (fun i : Nat => (.str s :: .top :: .int .i64 0 :: .bool false :: .int .i64 (decVal (s.take i) : Nat) :: .int .i64 (i : Int) :: .top :: .top :: .top :: .top :: .top :: .top :: .top :: .top :: .top :: .top :: .top :: .top :: .top :: .top :: .top :: .top :: .top :: .top :: .top :: .top :: .top :: .top :: .top :: .top :: .top :: .top :: .top :: .top :: .top :: .top :: .top :: .top :: .top :: .top :: .top :: .top :: .top :: .top :: .top :: .top :: .top :: [])) (fun i => i ≤ s.length ∧ (∀ k, k < i → 48 ≤ (s.getD k 0).toNat ∧ (s.getD k 0).toNat ≤ 57) ∧ decVal (s.take i) ≤ 9223372036854775807) (fun i => s.length - i) 0 ⟨Nat.zero_le _, fun k h => absurd h (Nat.not_lt_zero _), by simp [decVal]⟩ ?_
  rintro i ⟨hi, hall, hval⟩
  by_cases hlt : i < s.length
  · have hsu := decVal_succ hlt
    have hmo := decVal_mono s (i + 1)
    have hc256 := (s.getD i 0).toNat_lt
    repeat' (first | refine go ?_ | (refine br (fun hc => ?_) (fun hc => ?_) <;> try (exfalso; omega)) | fail)
    · rw [numV_bad (fun h => by have := h.1 i hlt; omega)]
      exact .now ⟨rfl, rfl⟩
    · rw [numV_bad (fun h => by have := h.1 i hlt; omega)]
      exact .now ⟨rfl, rfl⟩
    · rw [numV_bad (fun h => by
        have h2 := h.2
        rw [room10 (by omega) (by omega)] at hc
        omega)]
      exact .now ⟨rfl, rfl⟩
    · rw [room10 (by omega) (by omega)] at hc
      have e1 : IntKind.i64.wrap (IntKind.i64.wrap (10 * (decVal (List.take i s) : Int)) + (((s.getD i 0).toNat : Int) - 48)) = ((decVal (s.take (i + 1)) : Nat) : Int) := by
        rw [wrap_i64 (n := 10 * (decVal (List.take i s) : Int)) (by omega) (by omega), wrap_i64 (by omega) (by omega)]; omega
      rw [e1]
      refine again (i + 1) ⟨by omega, fun k hk => ?_, by omega⟩ (by omega)
      rcases Nat.lt_succ_iff_lt_or_eq.1 hk with h | h
      · exact hall k h
      · subst h; omega
  · obtain rfl : i = s.length := by omega
    rw [List.take_length] at hval ⊢
    have hF : Fine s := ⟨hall, hval⟩
    repeat' (first | refine go ?_ | (refine br (fun hc => ?_) (fun hc => ?_) <;> try (exfalso; omega)) | fail)
    · rw [numV_good hF, tf_true (p := Lead s) ⟨fun h => by subst h; simp at *, .inl fun h => by rw [h] at hc; simp at hc⟩]
      exact .now ⟨rfl, rfl⟩
    · rw [numV_good hF, show tf (Lead s) = decide (s = [48]) from by
        by_cases h1 : s = [48]
        · rw [tf_true (p := Lead s) ⟨by subst h1; simp, .inr h1⟩]; simp [h1]
        · rw [tf_false (p := Lead s) (fun h => h.2.elim (fun h2 => h2 (UInt8.toNat_inj.1 (show (s.getD 0 0).toNat = (48 : UInt8).toNat by show _ = 48; omega))) h1)]; simp [h1]]
      exact .now ⟨rfl, rfl⟩
    · rw [numV_good hF, tf_false (p := Lead s) (fun h => h.1 (List.length_eq_zero_iff.1 hc))]
      exact .now ⟨rfl, rfl⟩
instance number_t (s : List UInt8) : Ctr (env n0 w0 gl) 72 [.str s] H (s.length ≤ 9223372036854775807) (numV s) H := .of fun hs => number_e s hs

end Go.Ab.Tryz
