/- Plain laws: what is put is taken. -/
import Derived.Test.YtpdjgbpmlckepaaDoorLTake2
import Derived.Test.YtpdjgbpmlckepaaDoorLPut
set_option linter.unusedSimpArgs false
set_option linter.unusedVariables false
set_option maxHeartbeats 2000000
set_option maxRecDepth 4000
namespace Go.Ab.Tryd
open Go Go.Ab Go.Proofs

theorem dec_unfold (u : Nat) : Lib.decDigits u = if u < 10 then [UInt8.ofNat (48 + u)] else Lib.decDigits (u / 10) ++ [UInt8.ofNat (48 + u % 10)] := by
  conv => lhs; rw [Lib.decDigits]
  split <;> rfl
theorem dg_nat {d : Nat} (h : d < 10) : (UInt8.ofNat (48 + d)).toNat = 48 + d := UInt8.toNat_ofNat_of_lt' (by show _ < 256; omega)
theorem decVal_snoc (s : List UInt8) (c : UInt8) : decVal (s ++ [c]) = 10 * decVal s + (c.toNat - 48) := by simp [decVal, List.foldl_append]
theorem decVal_dec (u : Nat) : decVal (Lib.decDigits u) = u := by
  induction u using Nat.strongRecOn with
  | _ u ih =>
    rw [dec_unfold]
    split
    · rename_i h; simp only [decVal, List.foldl_cons, List.foldl_nil]; rw [dg_nat h]; omega
    · rw [decVal_snoc, ih (u / 10) (by omega), dg_nat (by omega)]; omega
theorem digits_dec (u : Nat) : ∀ c ∈ Lib.decDigits u, 48 ≤ c.toNat ∧ c.toNat ≤ 57 := by
  induction u using Nat.strongRecOn with
  | _ u ih =>
    rw [dec_unfold]
    split
    · rename_i h; intro c hc; simp only [List.mem_singleton] at hc; subst hc; rw [dg_nat h]; omega
    · intro c hc
      rcases List.mem_append.1 hc with h | h
      · exact ih (u / 10) (by omega) c h
      · simp only [List.mem_singleton] at h; subst h; rw [dg_nat (by omega)]; omega
theorem head_dec (u : Nat) (h : 10 ≤ u) : ((Lib.decDigits u).getD 0 0).toNat ≠ 48 := by
  induction u using Nat.strongRecOn with
  | _ u ih =>
    rw [dec_unfold, if_neg (by omega)]
    have hl := Lib.decDigits_length (u / 10)
    have hp := nDigits_pos (u / 10)
    have e : (Lib.decDigits (u / 10) ++ [UInt8.ofNat (48 + u % 10)]).getD 0 0 = (Lib.decDigits (u / 10)).getD 0 0 := by
      simp only [List.getD_eq_getElem?_getD]
      rw [List.getElem?_append_left (by omega)]
    rw [e]
    by_cases h2 : 10 ≤ u / 10
    · exact ih (u / 10) (by omega) h2
    · rw [dec_unfold, if_pos (by omega)]
      show (UInt8.ofNat (48 + u / 10)).toNat ≠ 48
      rw [dg_nat (by omega)]; omega

theorem cut15R_put (s rest : List UInt8) (hs : s.length ≤ 1000000) : cut15R (putF s ++ rest) = some (s, (putF s).length) := by
  have hl := Lib.decDigits_length s.length
  have hp := nDigits_pos s.length
  have h7 : Lib.nDigits s.length ≤ 7 := nDigits_le (by omega) (by omega)
  generalize hk : Lib.nDigits s.length = k at *
  have hb : putF s ++ rest = Lib.decDigits s.length ++ 58 :: (s ++ 44 :: rest) := by simp [putF]
  have htk : (putF s ++ rest).take k = Lib.decDigits s.length := by rw [hb, ← hl, List.take_left]
  have hget : ∀ i, i < k → (putF s ++ rest).getD i 0 = (Lib.decDigits s.length).getD i 0 := fun i hi => by
    rw [hb]; simp only [List.getD_eq_getElem?_getD]; rw [List.getElem?_append_left (by omega)]
  have hdig : ∀ i, i < k → 48 ≤ ((Lib.decDigits s.length).getD i 0).toNat ∧ ((Lib.decDigits s.length).getD i 0).toNat ≤ 57 := fun i hi => by
    have : (Lib.decDigits s.length).getD i 0 ∈ Lib.decDigits s.length := by
      rw [List.getD_eq_getElem?_getD, List.getElem?_eq_getElem (by omega)]; exact List.getElem_mem _
    exact digits_dec _ _ this
  have h58 : (putF s ++ rest).getD k 0 = 58 := by
    rw [hb]; simp only [List.getD_eq_getElem?_getD]; rw [List.getElem?_append_right (by omega), hl, Nat.sub_self]; rfl
  have hlen : (putF s ++ rest).length = k + (1 + (s.length + (1 + rest.length))) := by rw [hb]; simp [hl]; omega
  have ht9 : ∀ i, i < 9 → ((putF s ++ rest).take 9).getD i 0 = (putF s ++ rest).getD i 0 := fun i hi => by
    simp only [List.getD_eq_getElem?_getD, List.getElem?_take, if_pos hi]
  have hx : Lib.indexByte ((putF s ++ rest).take 9) 58 = (k : Int) := indexByte_first (by rw [List.length_take]; omega) (by rw [ht9 k (by omega), h58]) (fun j hj h => by
    rw [ht9 j (by omega), hget j hj] at h
    have := hdig j hj
    have e : (58 : UInt8).toNat = 58 := rfl
    omega)
  have hv : decVal ((putF s ++ rest).take k) = s.length := by rw [htk, decVal_dec]
  have hT : TakeOk (putF s ++ rest) k := by
    refine ⟨hp, ?_, ?_, by rw [hv]; exact hs, by rw [hv, hlen]; omega, ?_⟩
    · rintro ⟨h1, h2⟩
      rw [hget 0 (by omega)] at h1
      have h10 : 10 ≤ s.length := by
        rcases Nat.lt_or_ge s.length 10 with h | h
        · have : Lib.nDigits s.length = 1 := by rw [Lib.nDigits, dif_pos h]
          omega
        · exact h
      exact head_dec _ h10 (by rw [h1]; rfl)
    · rw [htk]; intro i hi; rw [hl] at hi; exact hdig i hi
    · rw [hv, hb]
      simp only [List.getD_eq_getElem?_getD]
      rw [List.getElem?_append_right (by omega), hl, show k + 1 + s.length - k = s.length + 1 by omega, List.getElem?_cons_succ, List.getElem?_append_right (Nat.le_refl _), Nat.sub_self]; rfl
  rw [cut15R_at hx hT, hv]
  congr 2
  · rw [hb, show List.drop (k + 1) (Lib.decDigits s.length ++ 58 :: (s ++ 44 :: rest)) = s ++ 44 :: rest by
      rw [show k + 1 = (Lib.decDigits s.length ++ [58]).length by simp [hl], show Lib.decDigits s.length ++ 58 :: (s ++ 44 :: rest) = (Lib.decDigits s.length ++ [58]) ++ (s ++ 44 :: rest) by simp, List.drop_left]]
    exact List.take_left
  · rw [putF_len]; omega
theorem takeV_put (s rest : List UInt8) (hs : s.length ≤ 1000000) : takeV (putF s ++ rest) = .tup [.sl s.length (bytesAV s) .ro, .sl rest.length (bytesAV rest) .ro, .bool true] := by
  unfold takeV
  rw [cut15R_put s rest hs]
  simp only [List.drop_left]
theorem putL_cons (s : List UInt8) (l : List (List UInt8)) : putL (s :: l) = putF s ++ putL l := by simp [putL]

end Go.Ab.Tryd
