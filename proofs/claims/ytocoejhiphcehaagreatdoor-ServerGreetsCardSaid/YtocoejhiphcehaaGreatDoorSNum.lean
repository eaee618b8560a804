/- Plain laws: a number's digits read again. -/
import Derived.Test.YtocoejhiphcehaaGreatDoorSPath
import Derived.Lib.AtoiErrMem
import Derived.Lib.ParseIntB
import Derived.Lib.ItoaMem
set_option linter.unusedSimpArgs false
set_option linter.unusedVariables false
set_option maxHeartbeats 2000000
set_option maxRecDepth 4000
namespace Go.Ab.Tryz
open Go Go.Ab

theorem sn_unfold (u : Nat) : Lib.decDigits u = if u < 10 then [UInt8.ofNat (48 + u)] else Lib.decDigits (u / 10) ++ [UInt8.ofNat (48 + u % 10)] := by
  conv => lhs; rw [Lib.decDigits]
  split <;> rfl
theorem sn_nat {d : Nat} (h : d < 10) : (UInt8.ofNat (48 + d)).toNat = 48 + d := UInt8.toNat_ofNat_of_lt' (by show _ < 256; omega)
theorem sn_digits (u : Nat) : ∀ c ∈ Lib.decDigits u, 48 ≤ c.toNat ∧ c.toNat ≤ 57 := by
  induction u using Nat.strongRecOn with
  | _ u ih =>
    rw [sn_unfold]
    split
    · rename_i h; intro c hc; simp only [List.mem_singleton] at hc; subst hc; rw [sn_nat h]; omega
    · intro c hc
      rcases List.mem_append.1 hc with h | h
      · exact ih (u / 10) (by omega) c h
      · simp only [List.mem_singleton] at h; subst h; rw [sn_nat (by omega)]; omega
theorem sn_val (u : Nat) : (Lib.decDigits u).foldl (fun n c => 10 * n + (c.toNat - 48)) 0 = u := by
  induction u using Nat.strongRecOn with
  | _ u ih =>
    rw [sn_unfold]
    split
    · rename_i h; simp only [List.foldl_cons, List.foldl_nil]; rw [sn_nat h]; omega
    · rw [List.foldl_append, ih (u / 10) (by omega)]; simp only [List.foldl_cons, List.foldl_nil]; rw [sn_nat (by omega)]; omega
theorem sn_ne (u : Nat) : Lib.decDigits u ≠ [] := by
  rw [sn_unfold]
  split <;> simp
theorem sn_fold : ∀ (l : List UInt8) (acc : Nat), (∀ c ∈ l, 48 ≤ c.toNat ∧ c.toNat ≤ 57) → l.foldl (fun n c => 10 * n + (c.toNat - 48)) acc ≤ 9223372036854775807 → Lib.parseUintM (2 ^ 64 - 1) acc l = .ok (l.foldl (fun n c => 10 * n + (c.toNat - 48)) acc)
  | [], acc, _, _ => rfl
  | c :: l, acc, hd, hv => by
    have h1 := hd c (List.mem_cons_self ..)
    have key : ∀ (l : List UInt8) (n : Nat), n ≤ l.foldl (fun n c => 10 * n + (c.toNat - 48)) n := by
      intro l
      induction l with
      | nil => intro n; exact Nat.le_refl _
      | cons c l ih => intro n; exact Nat.le_trans (show n ≤ 10 * n + (c.toNat - 48) by omega) (ih _)
    have h2 := key l (10 * acc + (c.toNat - 48))
    simp only [List.foldl_cons] at hv ⊢
    have h3 : (2 : Nat) ^ 64 - 1 = 18446744073709551615 := by decide
    rw [Lib.parseUintM, if_pos h1, if_neg (by omega), if_neg (by rw [h3]; omega), Nat.mul_comm acc 10]
    exact sn_fold l _ (fun x hx => hd x (List.mem_cons_of_mem _ hx)) hv
/-- The digits of a number that is not below nought are read again. -/
theorem parse_itoa {n : Int} (h0 : 0 ≤ n) (h1 : n ≤ 9223372036854775807) : Lib.parseIntB 64 (Lib.itoa n) = .ok n := by
  obtain ⟨u, rfl⟩ : ∃ u : Nat, n = (u : Int) := ⟨n.toNat, by omega⟩
  rw [Lib.itoa_nonneg]
  have hd := sn_digits u
  have hv := sn_val u
  have hf : Lib.parseUintM (2 ^ 64 - 1) 0 (Lib.decDigits u) = .ok u := by
    have := sn_fold (Lib.decDigits u) 0 hd (by rw [hv]; omega)
    rw [hv] at this; exact this
  have hne := sn_ne u
  cases hs : Lib.decDigits u with
  | nil => exact absurd hs hne
  | cons c r =>
    have h1 := hd c (by rw [hs]; exact List.mem_cons_self ..)
    rw [hs] at hf
    unfold Lib.parseIntB
    simp only
    rw [if_neg (by omega)]
    unfold Lib.parseUintB
    rw [if_neg (by simp), hf]
    simp only
    have h3 : (2 : Nat) ^ (64 - 1) = 9223372036854775808 := by decide
    rw [if_neg (by rw [h3]; omega), if_neg (by omega), if_neg (by omega)]
theorem itoa_digs {n : Int} (h0 : 0 ≤ n) : ∀ c ∈ Lib.itoa n, 48 ≤ c.toNat ∧ c.toNat ≤ 57 := by
  obtain ⟨u, rfl⟩ : ∃ u : Nat, n = (u : Int) := ⟨n.toNat, by omega⟩
  rw [Lib.itoa_nonneg]
  exact sn_digits u

end Go.Ab.Tryz
