/- What entry's functions put together, in plain words. -/
import Derived.Test.YtlcbdgklbjocnaaDoorSPath
namespace Go.Ab
open Go

/-- A number's digits. -/
def digits (n : Nat) : List UInt8 := if h : n < 10 then [UInt8.ofNat (48 + n)] else digits (n / 10) ++ [UInt8.ofNat (48 + n % 10)]
decreasing_by omega

theorem digits_one {m : Nat} (hm : m < 10) : digits m = [UInt8.ofNat (48 + m)] := by
  rw [digits, dif_pos hm]
theorem digits_two {m : Nat} (h1 : 10 ≤ m) (hm : m < 100) : digits m = [UInt8.ofNat (48 + m / 10), UInt8.ofNat (48 + m % 10)] := by
  rw [digits, dif_neg (by omega), digits_one (by omega)]; rfl

theorem digits_len_small {m : Nat} (hm : m < 100) : (digits m).length ≤ 2 := by
  by_cases h : m < 10
  · rw [digits_one h]; simp
  · rw [digits_two (by omega) hm]; simp

/-- Parts, one behind the other. -/
def putL : List (List UInt8) → List UInt8
  | [] => []
  | b :: l => digits b.length ++ [58] ++ b ++ [44] ++ putL l

theorem putL_append (a b : List (List UInt8)) : putL (a ++ b) = putL a ++ putL b := by
  induction a with
  | nil => rfl
  | cons x xs ih => simp [putL, ih]

theorem putL_take {l : List (List UInt8)} {i : Nat} (hi : i < l.length) : putL (l.take (i + 1)) = putL (l.take i) ++ digits (l.getD i []).length ++ [58] ++ l.getD i [] ++ [44] := by
  rw [List.take_add_one, putL_append, List.getElem?_eq_getElem hi, List.getD_eq_getElem?_getD, List.getElem?_eq_getElem hi]
  simp [putL]

theorem putL_mono {l : List (List UInt8)} (i : Nat) : (putL (l.take i)).length ≤ (putL l).length := by
  conv => rhs; rw [← List.take_append_drop i l, putL_append]
  simp

theorem smalls_digits : ∀ m, m < 100 → 10 ≤ m → (([48, 48, 48, 49, 48, 50, 48, 51, 48, 52, 48, 53, 48, 54, 48, 55, 48, 56, 48, 57, 49, 48, 49, 49, 49, 50, 49, 51, 49, 52, 49, 53, 49, 54, 49, 55, 49, 56, 49, 57, 50, 48, 50, 49, 50, 50, 50, 51, 50, 52] ++ [50, 53, 50, 54, 50, 55, 50, 56, 50, 57, 51, 48, 51, 49, 51, 50, 51, 51, 51, 52, 51, 53, 51, 54, 51, 55, 51, 56, 51, 57, 52, 48, 52, 49, 52, 50, 52, 51, 52, 52, 52, 53, 52, 54, 52, 55, 52, 56, 52, 57] ++ ([53, 48, 53, 49, 53, 50, 53, 51, 53, 52, 53, 53, 53, 54, 53, 55, 53, 56, 53, 57, 54, 48, 54, 49, 54, 50, 54, 51, 54, 52, 54, 53, 54, 54, 54, 55, 54, 56, 54, 57, 55, 48, 55, 49, 55, 50, 55, 51, 55, 52] ++ [55, 53, 55, 54, 55, 55, 55, 56, 55, 57, 56, 48, 56, 49, 56, 50, 56, 51, 56, 52, 56, 53, 56, 54, 56, 55, 56, 56, 56, 57, 57, 48, 57, 49, 57, 50, 57, 51, 57, 52, 57, 53, 57, 54, 57, 55, 57, 56, 57, 57]) : List UInt8).take (m * 2 + 2)).drop (m * 2) = [UInt8.ofNat (48 + m / 10), UInt8.ofNat (48 + m % 10)] := by decide +kernel
theorem tens_digits : ∀ m, m < 10 → (([48, 49, 50, 51, 52, 53, 54, 55, 56, 57, 97, 98, 99, 100, 101, 102, 103, 104, 105, 106, 107, 108, 109, 110, 111, 112, 113, 114, 115, 116, 117, 118, 119, 120, 121, 122] : List UInt8).take (m + 1)).drop m = [UInt8.ofNat (48 + m)] := by decide +kernel

end Go.Ab
