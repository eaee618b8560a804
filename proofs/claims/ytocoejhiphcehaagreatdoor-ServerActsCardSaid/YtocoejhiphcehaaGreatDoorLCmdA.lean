/- Walks: verbs of commands. -/
import Derived.Test.YtocoejhiphcehaaGreatDoorLHeadA
import Derived.Test.YtocoejhiphcehaaGreatDoorLMail
import Derived.Test.YtocoejhiphcehaaGreatDoorLRound
import Derived.Test.YtocoejhiphcehaaGreatDoorSPath
import Derived.Test.YtocoejhiphcehaaGreatDoorLConvA
import Derived.Test.YtocoejhiphcehaaGreatDoorShParse
import Derived.Test.YtocoejhiphcehaaGreatDoorShHead
import Derived.Lib.SlTrimSet
section
set_option linter.unusedSimpArgs false
set_option linter.unusedVariables false
set_option maxHeartbeats 4000000
set_option maxRecDepth 4000
namespace Go.Ab.Tryz
open Go Go.Ab Go.Proofs
attribute [local irreducible] W Wl Wop TrA WSeq WLoopS FPost DPost RPost WRound DK onEnd
variable {n0 : Nat} {w0 : World} {gl : Nat → List AV} {H : List AO}
attribute [local simp] belowL_bytesAV

/-- A byte made great. -/
def upB (c : UInt8) : UInt8 := if 97 ≤ c.toNat ∧ c.toNat ≤ 122 then c - 32 else c
def upTo (s : List UInt8) (i : Nat) : List UInt8 := (s.take i).map upB ++ s.drop i
theorem upTo_len (s : List UInt8) (i : Nat) : (upTo s i).length = s.length := by simp [upTo]; omega
theorem upTo_get {s : List UInt8} {i : Nat} (h : i < s.length) : (bytesAV (upTo s i)).getD i .top = .int .u8 (s.getD i 0).toNat := by
  simp [bytesAV, upTo, byteAV, List.getD_eq_getElem?_getD, List.getElem?_append_right, h, Nat.min_eq_left (Nat.le_of_lt h)]
theorem upTo_succ {s : List UInt8} {i : Nat} (h : i < s.length) : upTo s (i + 1) = (upTo s i).set i (upB (s.getD i 0)) := by
  unfold upTo
  rw [List.set_append_right _ _ (by simp; omega), List.take_add_one, List.map_append, List.append_assoc]
  congr 1
  have e : i - ((s.take i).map upB).length = 0 := by simp; omega
  rw [e, List.drop_eq_getElem_cons h]
  simp only [List.set_cons_zero]
  simp [h]
theorem upTo_same {s : List UInt8} {i : Nat} (h : i < s.length) (hc : ¬ (97 ≤ (s.getD i 0).toNat ∧ (s.getD i 0).toNat ≤ 122)) : upTo s (i + 1) = upTo s i := by
  rw [upTo_succ h]
  have : upB (s.getD i 0) = s.getD i 0 := by unfold upB; rw [if_neg hc]
  rw [this]
  apply List.ext_getElem?
  intro k
  by_cases e : i = k
  · subst e
    rw [List.getElem?_set_self (by rw [upTo_len]; exact h)]
    simp [upTo, List.getElem?_append_right, h, Nat.min_eq_left (Nat.le_of_lt h)]
  · rw [List.getElem?_set_ne e]
theorem upB_andNot (c : UInt8) (h1 : 97 ≤ c.toNat) (h2 : c.toNat ≤ 122) : bitsOf BinOp.andNot .u8 (c.toNat : Int) 32 = ((upB c).toNat : Int) := by
  have key : ∀ n, n < 256 → 97 ≤ n → n ≤ 122 → bitsOf BinOp.andNot .u8 ((n : Nat) : Int) 32 = ((UInt8.ofNat n - 32).toNat : Int) := by decide +kernel
  have := key c.toNat (by have := c.toNat_lt; omega) h1 h2
  rw [this]
  unfold upB
  rw [if_pos ⟨h1, h2⟩, UInt8.ofNat_toNat]

instance big_t (s : List UInt8) : Ctr (env n0 w0 gl) 82 [.str s] H (s.length ≤ 9223372036854775807) (.str (s.map upB)) H := .of fun hs => by
  refine enter (md := fun t => if t = 7 then 2 else 0) Tryz.func82 (fun hfit hgl => ?_)
  repeat' (first | refine go ?_ | (refine br (fun hc => ?_) (fun hc => ?_) <;> try (exfalso; omega)) | fail)
  refine loop (fun i : Nat => (.top :: .top :: .str [] :: .msl H.length 0 s.length :: .top :: .top :: .top :: .top :: .msl H.length 0 s.length :: .int .i64 s.length :: .int .i64 (i : Int) :: .top :: .top :: .top :: .top :: .top :: .top :: .top :: .top :: .top :: .top :: .top :: .top :: .top :: .top :: .top :: .top :: .top :: .top :: [])) (fun i => H ++ [.cells (bytesAV (upTo s i))]) (fun i => i ≤ s.length) (fun i => s.length - i) 0 (Nat.zero_le _) ?_
  intro i hi
  have hln := upTo_len s i
  have hlb : (bytesAV (upTo s i)).length = s.length := by rw [bytesAV_len, hln]
  have hh := And.intro hln (And.intro (fun h : i < s.length => upTo_get h) (And.intro (List.take_of_length_le (Nat.le_of_eq hlb)) hlb))
  repeat' (first | refine go ?_ | (refine br (fun hc => ?_) (fun hc => ?_) <;> try (exfalso; omega)) | fail)
  · refine againE (i + 1) (by omega) (by omega) ?_
    rw [upTo_succ (by omega), upB_andNot _ (by omega) (by omega)]
    rw [bytesAV_set (by rw [upTo_len]; omega)]
  · refine againE (i + 1) (by omega) (by omega) ?_
    rw [upTo_same (by omega) (by omega)]
  · refine againE (i + 1) (by omega) (by omega) ?_
    rw [upTo_same (by omega) (by omega)]
  · refine .junkd ⟨?_, rfl⟩
    have : i = s.length := by omega
    rw [this]
    simp [upTo]

instance verbs_t : Ctr (env n0 w0 gl) 83 [] H True (.agg [.str [], .str [72, 69, 76, 79], .str [69, 72, 76, 79], .str [77, 65, 73, 76], .str [82, 67, 80, 84], .str [68, 65, 84, 65], .str [82, 83, 69, 84], .str [78, 79, 79, 80], .str [81, 85, 73, 84], .str [86, 82, 70, 89]]) H := .of fun _ => by
  refine enter (md := fun _ => 0) Tryz.func83 (fun hfit hgl => ?_)
  repeat' (first | refine go ?_ | (refine br (fun hc => ?_) (fun hc => ?_) <;> try (exfalso; omega)) | fail)
  with_reducible apply wop_heap'
  · rfl
  · rfl
  · simp only [evHeap, evBuild, ty102, ty9, evParts, Array.toList, List.map_cons, List.map_nil, AAct.ev, constAV]
    exact rfl
  · exact eSet
  · repeat' (first | refine go ?_ | (refine br (fun hc => ?_) (fun hc => ?_) <;> try (exfalso; omega)) | fail)
    exact .junkd ⟨rfl, rfl⟩

/-- The verb of a word that was made great; of one that was made small. -/
def verbU (u : List UInt8) : Int := if u = [72, 69, 76, 79] then 1 else if u = [69, 72, 76, 79] then 2 else if u = [77, 65, 73, 76] then 3 else if u = [82, 67, 80, 84] then 4 else if u = [68, 65, 84, 65] then 5 else if u = [82, 83, 69, 84] then 6 else if u = [78, 79, 79, 80] then 7 else if u = [81, 85, 73, 84] then 8 else if u = [86, 82, 70, 89] then 9 else 0
def verbL (u : List UInt8) : Int := if u = [104, 101, 108, 111] then 1 else if u = [101, 104, 108, 111] then 2 else if u = [109, 97, 105, 108] then 3 else if u = [114, 99, 112, 116] then 4 else if u = [100, 97, 116, 97] then 5 else if u = [114, 115, 101, 116] then 6 else if u = [110, 111, 111, 112] then 7 else if u = [113, 117, 105, 116] then 8 else if u = [118, 114, 102, 121] then 9 else 0

instance verb_t (s : List UInt8) : Ctr (env n0 w0 gl) 63 [.str s] H (s.length ≤ 9223372036854775807) (.int .i64 (verbU (s.map upB))) H := .of fun hs => by
  refine enter (md := fun _ => 0) Tryz.func63 (fun hfit hgl => ?_)
  repeat' (first | refine go ?_ | (refine br (fun hc => ?_) (fun hc => ?_) <;> try (exfalso; omega)) | fail)
  refine loop (fun i : Nat => (.str (s.map upB) :: .top :: .int .i64 0 :: .top :: .top :: .top :: .top :: .agg [.str [], .str [72, 69, 76, 79], .str [69, 72, 76, 79], .str [77, 65, 73, 76], .str [82, 67, 80, 84], .str [68, 65, 84, 65], .str [82, 83, 69, 84], .str [78, 79, 79, 80], .str [81, 85, 73, 84], .str [86, 82, 70, 89]] :: .int .i64 (i : Int) :: .top :: .top :: .top :: .top :: .top :: .top :: .top :: .top :: .top :: .top :: .top :: .top :: [])) (fun _ => H) (fun i => i ≤ 10 ∧ (1 < i → ¬ s.map upB = [72, 69, 76, 79]) ∧ (2 < i → ¬ s.map upB = [69, 72, 76, 79]) ∧ (3 < i → ¬ s.map upB = [77, 65, 73, 76]) ∧ (4 < i → ¬ s.map upB = [82, 67, 80, 84]) ∧ (5 < i → ¬ s.map upB = [68, 65, 84, 65]) ∧ (6 < i → ¬ s.map upB = [82, 83, 69, 84]) ∧ (7 < i → ¬ s.map upB = [78, 79, 79, 80]) ∧ (8 < i → ¬ s.map upB = [81, 85, 73, 84]) ∧ (9 < i → ¬ s.map upB = [86, 82, 70, 89])) (fun i => 10 - i) 0 ⟨by omega, fun h => absurd h (by omega), fun h => absurd h (by omega), fun h => absurd h (by omega), fun h => absurd h (by omega), fun h => absurd h (by omega), fun h => absurd h (by omega), fun h => absurd h (by omega), fun h => absurd h (by omega), fun h => absurd h (by omega)⟩ ?_
  rintro i ⟨hi, f1, f2, f3, f4, f5, f6, f7, f8, f9⟩
  have hcase : i = 0 ∨ i = 1 ∨ i = 2 ∨ i = 3 ∨ i = 4 ∨ i = 5 ∨ i = 6 ∨ i = 7 ∨ i = 8 ∨ i = 9 ∨ i = 10 := by omega
  rcases hcase with rfl | rfl | rfl | rfl | rfl | rfl | rfl | rfl | rfl | rfl | rfl
  · clear hi
    repeat' (first | refine go ?_ | (refine br (fun hc => ?_) (fun hc => ?_) <;> try (exfalso; omega)) | fail)
    exact again 1 ⟨by omega, fun h => absurd h (by omega), fun h => absurd h (by omega), fun h => absurd h (by omega), fun h => absurd h (by omega), fun h => absurd h (by omega), fun h => absurd h (by omega), fun h => absurd h (by omega), fun h => absurd h (by omega), fun h => absurd h (by omega)⟩
  · clear hi
    by_cases hq : s.map upB = [72, 69, 76, 79]
    · have hh := hq
      repeat' (first | refine go ?_ | (refine br (fun hc => ?_) (fun hc => ?_) <;> try (exfalso; omega)) | fail)
      refine .now ⟨?_, rfl⟩
      rw [show verbU (s.map upB) = 1 by unfold verbU; rw [if_pos hq]]
    · have hq2 : ¬ [72, 69, 76, 79] = s.map upB := fun h => hq h.symm
      have hh := And.intro hq hq2
      repeat' (first | refine go ?_ | (refine br (fun hc => ?_) (fun hc => ?_) <;> try (exfalso; omega)) | fail)
      exact again 2 ⟨by omega, fun _ => hq, fun h => absurd h (by omega), fun h => absurd h (by omega), fun h => absurd h (by omega), fun h => absurd h (by omega), fun h => absurd h (by omega), fun h => absurd h (by omega), fun h => absurd h (by omega), fun h => absurd h (by omega)⟩
  · clear hi
    have e1 := f1 (by omega)
    by_cases hq : s.map upB = [69, 72, 76, 79]
    · have hh := hq
      repeat' (first | refine go ?_ | (refine br (fun hc => ?_) (fun hc => ?_) <;> try (exfalso; omega)) | fail)
      refine .now ⟨?_, rfl⟩
      rw [show verbU (s.map upB) = 2 by unfold verbU; rw [if_neg e1, if_pos hq]]
    · have hq2 : ¬ [69, 72, 76, 79] = s.map upB := fun h => hq h.symm
      have hh := And.intro hq hq2
      repeat' (first | refine go ?_ | (refine br (fun hc => ?_) (fun hc => ?_) <;> try (exfalso; omega)) | fail)
      exact again 3 ⟨by omega, fun _ => e1, fun _ => hq, fun h => absurd h (by omega), fun h => absurd h (by omega), fun h => absurd h (by omega), fun h => absurd h (by omega), fun h => absurd h (by omega), fun h => absurd h (by omega), fun h => absurd h (by omega)⟩
  · clear hi
    have e1 := f1 (by omega)
    have e2 := f2 (by omega)
    by_cases hq : s.map upB = [77, 65, 73, 76]
    · have hh := hq
      repeat' (first | refine go ?_ | (refine br (fun hc => ?_) (fun hc => ?_) <;> try (exfalso; omega)) | fail)
      refine .now ⟨?_, rfl⟩
      rw [show verbU (s.map upB) = 3 by unfold verbU; rw [if_neg e1, if_neg e2, if_pos hq]]
    · have hq2 : ¬ [77, 65, 73, 76] = s.map upB := fun h => hq h.symm
      have hh := And.intro hq hq2
      repeat' (first | refine go ?_ | (refine br (fun hc => ?_) (fun hc => ?_) <;> try (exfalso; omega)) | fail)
      exact again 4 ⟨by omega, fun _ => e1, fun _ => e2, fun _ => hq, fun h => absurd h (by omega), fun h => absurd h (by omega), fun h => absurd h (by omega), fun h => absurd h (by omega), fun h => absurd h (by omega), fun h => absurd h (by omega)⟩
  · clear hi
    have e1 := f1 (by omega)
    have e2 := f2 (by omega)
    have e3 := f3 (by omega)
    by_cases hq : s.map upB = [82, 67, 80, 84]
    · have hh := hq
      repeat' (first | refine go ?_ | (refine br (fun hc => ?_) (fun hc => ?_) <;> try (exfalso; omega)) | fail)
      refine .now ⟨?_, rfl⟩
      rw [show verbU (s.map upB) = 4 by unfold verbU; rw [if_neg e1, if_neg e2, if_neg e3, if_pos hq]]
    · have hq2 : ¬ [82, 67, 80, 84] = s.map upB := fun h => hq h.symm
      have hh := And.intro hq hq2
      repeat' (first | refine go ?_ | (refine br (fun hc => ?_) (fun hc => ?_) <;> try (exfalso; omega)) | fail)
      exact again 5 ⟨by omega, fun _ => e1, fun _ => e2, fun _ => e3, fun _ => hq, fun h => absurd h (by omega), fun h => absurd h (by omega), fun h => absurd h (by omega), fun h => absurd h (by omega), fun h => absurd h (by omega)⟩
  · clear hi
    have e1 := f1 (by omega)
    have e2 := f2 (by omega)
    have e3 := f3 (by omega)
    have e4 := f4 (by omega)
    by_cases hq : s.map upB = [68, 65, 84, 65]
    · have hh := hq
      repeat' (first | refine go ?_ | (refine br (fun hc => ?_) (fun hc => ?_) <;> try (exfalso; omega)) | fail)
      refine .now ⟨?_, rfl⟩
      rw [show verbU (s.map upB) = 5 by unfold verbU; rw [if_neg e1, if_neg e2, if_neg e3, if_neg e4, if_pos hq]]
    · have hq2 : ¬ [68, 65, 84, 65] = s.map upB := fun h => hq h.symm
      have hh := And.intro hq hq2
      repeat' (first | refine go ?_ | (refine br (fun hc => ?_) (fun hc => ?_) <;> try (exfalso; omega)) | fail)
      exact again 6 ⟨by omega, fun _ => e1, fun _ => e2, fun _ => e3, fun _ => e4, fun _ => hq, fun h => absurd h (by omega), fun h => absurd h (by omega), fun h => absurd h (by omega), fun h => absurd h (by omega)⟩
  · clear hi
    have e1 := f1 (by omega)
    have e2 := f2 (by omega)
    have e3 := f3 (by omega)
    have e4 := f4 (by omega)
    have e5 := f5 (by omega)
    by_cases hq : s.map upB = [82, 83, 69, 84]
    · have hh := hq
      repeat' (first | refine go ?_ | (refine br (fun hc => ?_) (fun hc => ?_) <;> try (exfalso; omega)) | fail)
      refine .now ⟨?_, rfl⟩
      rw [show verbU (s.map upB) = 6 by unfold verbU; rw [if_neg e1, if_neg e2, if_neg e3, if_neg e4, if_neg e5, if_pos hq]]
    · have hq2 : ¬ [82, 83, 69, 84] = s.map upB := fun h => hq h.symm
      have hh := And.intro hq hq2
      repeat' (first | refine go ?_ | (refine br (fun hc => ?_) (fun hc => ?_) <;> try (exfalso; omega)) | fail)
      exact again 7 ⟨by omega, fun _ => e1, fun _ => e2, fun _ => e3, fun _ => e4, fun _ => e5, fun _ => hq, fun h => absurd h (by omega), fun h => absurd h (by omega), fun h => absurd h (by omega)⟩
  · clear hi
    have e1 := f1 (by omega)
    have e2 := f2 (by omega)
    have e3 := f3 (by omega)
    have e4 := f4 (by omega)
    have e5 := f5 (by omega)
    have e6 := f6 (by omega)
    by_cases hq : s.map upB = [78, 79, 79, 80]
    · have hh := hq
      repeat' (first | refine go ?_ | (refine br (fun hc => ?_) (fun hc => ?_) <;> try (exfalso; omega)) | fail)
      refine .now ⟨?_, rfl⟩
      rw [show verbU (s.map upB) = 7 by unfold verbU; rw [if_neg e1, if_neg e2, if_neg e3, if_neg e4, if_neg e5, if_neg e6, if_pos hq]]
    · have hq2 : ¬ [78, 79, 79, 80] = s.map upB := fun h => hq h.symm
      have hh := And.intro hq hq2
      repeat' (first | refine go ?_ | (refine br (fun hc => ?_) (fun hc => ?_) <;> try (exfalso; omega)) | fail)
      exact again 8 ⟨by omega, fun _ => e1, fun _ => e2, fun _ => e3, fun _ => e4, fun _ => e5, fun _ => e6, fun _ => hq, fun h => absurd h (by omega), fun h => absurd h (by omega)⟩
  · clear hi
    have e1 := f1 (by omega)
    have e2 := f2 (by omega)
    have e3 := f3 (by omega)
    have e4 := f4 (by omega)
    have e5 := f5 (by omega)
    have e6 := f6 (by omega)
    have e7 := f7 (by omega)
    by_cases hq : s.map upB = [81, 85, 73, 84]
    · have hh := hq
      repeat' (first | refine go ?_ | (refine br (fun hc => ?_) (fun hc => ?_) <;> try (exfalso; omega)) | fail)
      refine .now ⟨?_, rfl⟩
      rw [show verbU (s.map upB) = 8 by unfold verbU; rw [if_neg e1, if_neg e2, if_neg e3, if_neg e4, if_neg e5, if_neg e6, if_neg e7, if_pos hq]]
    · have hq2 : ¬ [81, 85, 73, 84] = s.map upB := fun h => hq h.symm
      have hh := And.intro hq hq2
      repeat' (first | refine go ?_ | (refine br (fun hc => ?_) (fun hc => ?_) <;> try (exfalso; omega)) | fail)
      exact again 9 ⟨by omega, fun _ => e1, fun _ => e2, fun _ => e3, fun _ => e4, fun _ => e5, fun _ => e6, fun _ => e7, fun _ => hq, fun h => absurd h (by omega)⟩
  · clear hi
    have e1 := f1 (by omega)
    have e2 := f2 (by omega)
    have e3 := f3 (by omega)
    have e4 := f4 (by omega)
    have e5 := f5 (by omega)
    have e6 := f6 (by omega)
    have e7 := f7 (by omega)
    have e8 := f8 (by omega)
    by_cases hq : s.map upB = [86, 82, 70, 89]
    · have hh := hq
      repeat' (first | refine go ?_ | (refine br (fun hc => ?_) (fun hc => ?_) <;> try (exfalso; omega)) | fail)
      refine .now ⟨?_, rfl⟩
      rw [show verbU (s.map upB) = 9 by unfold verbU; rw [if_neg e1, if_neg e2, if_neg e3, if_neg e4, if_neg e5, if_neg e6, if_neg e7, if_neg e8, if_pos hq]]
    · have hq2 : ¬ [86, 82, 70, 89] = s.map upB := fun h => hq h.symm
      have hh := And.intro hq hq2
      repeat' (first | refine go ?_ | (refine br (fun hc => ?_) (fun hc => ?_) <;> try (exfalso; omega)) | fail)
      exact again 10 ⟨by omega, fun _ => e1, fun _ => e2, fun _ => e3, fun _ => e4, fun _ => e5, fun _ => e6, fun _ => e7, fun _ => e8, fun _ => hq⟩
  · clear hi
    have e1 := f1 (by omega)
    have e2 := f2 (by omega)
    have e3 := f3 (by omega)
    have e4 := f4 (by omega)
    have e5 := f5 (by omega)
    have e6 := f6 (by omega)
    have e7 := f7 (by omega)
    have e8 := f8 (by omega)
    have e9 := f9 (by omega)
    repeat' (first | refine go ?_ | (refine br (fun hc => ?_) (fun hc => ?_) <;> try (exfalso; omega)) | fail)
    refine .now ⟨?_, rfl⟩
    rw [show verbU (s.map upB) = 0 by unfold verbU; rw [if_neg e1, if_neg e2, if_neg e3, if_neg e4, if_neg e5, if_neg e6, if_neg e7, if_neg e8, if_neg e9]]

instance verb23_t (s : List UInt8) : Ctr (env n0 w0 gl) 69 [.str s] H (s.length ≤ 9223372036854775807) (.int .i64 (verbL (s.map lowB))) H := .of fun hs => by
  refine enter (md := fun _ => 0) Tryz.func69 (fun hfit hgl => ?_)
  repeat' (first | refine go ?_ | (refine br (fun hc => ?_) (fun hc => ?_) <;> try (exfalso; omega)) | fail)
  refine loop (fun i : Nat => (.str s :: .top :: .int .i64 0 :: .top :: .top :: .sl 10 [.str [], .str [104, 101, 108, 111], .str [101, 104, 108, 111], .str [109, 97, 105, 108], .str [114, 99, 112, 116], .str [100, 97, 116, 97], .str [114, 115, 101, 116], .str [110, 111, 111, 112], .str [113, 117, 105, 116], .str [118, 114, 102, 121]] .full :: .int .i64 10 :: .int .i64 (i : Int) :: .top :: .top :: .top :: .top :: .top :: .top :: .top :: .top :: .top :: .top :: .top :: .top :: .top :: .top :: [])) (fun _ => H) (fun i => i ≤ 10 ∧ (1 < i → ¬ s.map lowB = [104, 101, 108, 111]) ∧ (2 < i → ¬ s.map lowB = [101, 104, 108, 111]) ∧ (3 < i → ¬ s.map lowB = [109, 97, 105, 108]) ∧ (4 < i → ¬ s.map lowB = [114, 99, 112, 116]) ∧ (5 < i → ¬ s.map lowB = [100, 97, 116, 97]) ∧ (6 < i → ¬ s.map lowB = [114, 115, 101, 116]) ∧ (7 < i → ¬ s.map lowB = [110, 111, 111, 112]) ∧ (8 < i → ¬ s.map lowB = [113, 117, 105, 116]) ∧ (9 < i → ¬ s.map lowB = [118, 114, 102, 121])) (fun i => 10 - i) 0 ⟨by omega, fun h => absurd h (by omega), fun h => absurd h (by omega), fun h => absurd h (by omega), fun h => absurd h (by omega), fun h => absurd h (by omega), fun h => absurd h (by omega), fun h => absurd h (by omega), fun h => absurd h (by omega), fun h => absurd h (by omega)⟩ ?_
  rintro i ⟨hi, f1, f2, f3, f4, f5, f6, f7, f8, f9⟩
  have hcase : i = 0 ∨ i = 1 ∨ i = 2 ∨ i = 3 ∨ i = 4 ∨ i = 5 ∨ i = 6 ∨ i = 7 ∨ i = 8 ∨ i = 9 ∨ i = 10 := by omega
  rcases hcase with rfl | rfl | rfl | rfl | rfl | rfl | rfl | rfl | rfl | rfl | rfl
  · clear hi
    repeat' (first | refine go ?_ | (refine br (fun hc => ?_) (fun hc => ?_) <;> try (exfalso; omega)) | fail)
    exact again 1 ⟨by omega, fun h => absurd h (by omega), fun h => absurd h (by omega), fun h => absurd h (by omega), fun h => absurd h (by omega), fun h => absurd h (by omega), fun h => absurd h (by omega), fun h => absurd h (by omega), fun h => absurd h (by omega), fun h => absurd h (by omega)⟩
  · clear hi
    by_cases hq : s.map lowB = [104, 101, 108, 111]
    · have hh := hq
      repeat' (first | refine go ?_ | (refine br (fun hc => ?_) (fun hc => ?_) <;> try (exfalso; omega)) | fail)
      refine .now ⟨?_, rfl⟩
      rw [show verbL (s.map lowB) = 1 by unfold verbL; rw [if_pos hq]]
    · have hq2 : ¬ [104, 101, 108, 111] = s.map lowB := fun h => hq h.symm
      have hh := And.intro hq hq2
      repeat' (first | refine go ?_ | (refine br (fun hc => ?_) (fun hc => ?_) <;> try (exfalso; omega)) | fail)
      exact again 2 ⟨by omega, fun _ => hq, fun h => absurd h (by omega), fun h => absurd h (by omega), fun h => absurd h (by omega), fun h => absurd h (by omega), fun h => absurd h (by omega), fun h => absurd h (by omega), fun h => absurd h (by omega), fun h => absurd h (by omega)⟩
  · clear hi
    have e1 := f1 (by omega)
    by_cases hq : s.map lowB = [101, 104, 108, 111]
    · have hh := hq
      repeat' (first | refine go ?_ | (refine br (fun hc => ?_) (fun hc => ?_) <;> try (exfalso; omega)) | fail)
      refine .now ⟨?_, rfl⟩
      rw [show verbL (s.map lowB) = 2 by unfold verbL; rw [if_neg e1, if_pos hq]]
    · have hq2 : ¬ [101, 104, 108, 111] = s.map lowB := fun h => hq h.symm
      have hh := And.intro hq hq2
      repeat' (first | refine go ?_ | (refine br (fun hc => ?_) (fun hc => ?_) <;> try (exfalso; omega)) | fail)
      exact again 3 ⟨by omega, fun _ => e1, fun _ => hq, fun h => absurd h (by omega), fun h => absurd h (by omega), fun h => absurd h (by omega), fun h => absurd h (by omega), fun h => absurd h (by omega), fun h => absurd h (by omega), fun h => absurd h (by omega)⟩
  · clear hi
    have e1 := f1 (by omega)
    have e2 := f2 (by omega)
    by_cases hq : s.map lowB = [109, 97, 105, 108]
    · have hh := hq
      repeat' (first | refine go ?_ | (refine br (fun hc => ?_) (fun hc => ?_) <;> try (exfalso; omega)) | fail)
      refine .now ⟨?_, rfl⟩
      rw [show verbL (s.map lowB) = 3 by unfold verbL; rw [if_neg e1, if_neg e2, if_pos hq]]
    · have hq2 : ¬ [109, 97, 105, 108] = s.map lowB := fun h => hq h.symm
      have hh := And.intro hq hq2
      repeat' (first | refine go ?_ | (refine br (fun hc => ?_) (fun hc => ?_) <;> try (exfalso; omega)) | fail)
      exact again 4 ⟨by omega, fun _ => e1, fun _ => e2, fun _ => hq, fun h => absurd h (by omega), fun h => absurd h (by omega), fun h => absurd h (by omega), fun h => absurd h (by omega), fun h => absurd h (by omega), fun h => absurd h (by omega)⟩
  · clear hi
    have e1 := f1 (by omega)
    have e2 := f2 (by omega)
    have e3 := f3 (by omega)
    by_cases hq : s.map lowB = [114, 99, 112, 116]
    · have hh := hq
      repeat' (first | refine go ?_ | (refine br (fun hc => ?_) (fun hc => ?_) <;> try (exfalso; omega)) | fail)
      refine .now ⟨?_, rfl⟩
      rw [show verbL (s.map lowB) = 4 by unfold verbL; rw [if_neg e1, if_neg e2, if_neg e3, if_pos hq]]
    · have hq2 : ¬ [114, 99, 112, 116] = s.map lowB := fun h => hq h.symm
      have hh := And.intro hq hq2
      repeat' (first | refine go ?_ | (refine br (fun hc => ?_) (fun hc => ?_) <;> try (exfalso; omega)) | fail)
      exact again 5 ⟨by omega, fun _ => e1, fun _ => e2, fun _ => e3, fun _ => hq, fun h => absurd h (by omega), fun h => absurd h (by omega), fun h => absurd h (by omega), fun h => absurd h (by omega), fun h => absurd h (by omega)⟩
  · clear hi
    have e1 := f1 (by omega)
    have e2 := f2 (by omega)
    have e3 := f3 (by omega)
    have e4 := f4 (by omega)
    by_cases hq : s.map lowB = [100, 97, 116, 97]
    · have hh := hq
      repeat' (first | refine go ?_ | (refine br (fun hc => ?_) (fun hc => ?_) <;> try (exfalso; omega)) | fail)
      refine .now ⟨?_, rfl⟩
      rw [show verbL (s.map lowB) = 5 by unfold verbL; rw [if_neg e1, if_neg e2, if_neg e3, if_neg e4, if_pos hq]]
    · have hq2 : ¬ [100, 97, 116, 97] = s.map lowB := fun h => hq h.symm
      have hh := And.intro hq hq2
      repeat' (first | refine go ?_ | (refine br (fun hc => ?_) (fun hc => ?_) <;> try (exfalso; omega)) | fail)
      exact again 6 ⟨by omega, fun _ => e1, fun _ => e2, fun _ => e3, fun _ => e4, fun _ => hq, fun h => absurd h (by omega), fun h => absurd h (by omega), fun h => absurd h (by omega), fun h => absurd h (by omega)⟩
  · clear hi
    have e1 := f1 (by omega)
    have e2 := f2 (by omega)
    have e3 := f3 (by omega)
    have e4 := f4 (by omega)
    have e5 := f5 (by omega)
    by_cases hq : s.map lowB = [114, 115, 101, 116]
    · have hh := hq
      repeat' (first | refine go ?_ | (refine br (fun hc => ?_) (fun hc => ?_) <;> try (exfalso; omega)) | fail)
      refine .now ⟨?_, rfl⟩
      rw [show verbL (s.map lowB) = 6 by unfold verbL; rw [if_neg e1, if_neg e2, if_neg e3, if_neg e4, if_neg e5, if_pos hq]]
    · have hq2 : ¬ [114, 115, 101, 116] = s.map lowB := fun h => hq h.symm
      have hh := And.intro hq hq2
      repeat' (first | refine go ?_ | (refine br (fun hc => ?_) (fun hc => ?_) <;> try (exfalso; omega)) | fail)
      exact again 7 ⟨by omega, fun _ => e1, fun _ => e2, fun _ => e3, fun _ => e4, fun _ => e5, fun _ => hq, fun h => absurd h (by omega), fun h => absurd h (by omega), fun h => absurd h (by omega)⟩
  · clear hi
    have e1 := f1 (by omega)
    have e2 := f2 (by omega)
    have e3 := f3 (by omega)
    have e4 := f4 (by omega)
    have e5 := f5 (by omega)
    have e6 := f6 (by omega)
    by_cases hq : s.map lowB = [110, 111, 111, 112]
    · have hh := hq
      repeat' (first | refine go ?_ | (refine br (fun hc => ?_) (fun hc => ?_) <;> try (exfalso; omega)) | fail)
      refine .now ⟨?_, rfl⟩
      rw [show verbL (s.map lowB) = 7 by unfold verbL; rw [if_neg e1, if_neg e2, if_neg e3, if_neg e4, if_neg e5, if_neg e6, if_pos hq]]
    · have hq2 : ¬ [110, 111, 111, 112] = s.map lowB := fun h => hq h.symm
      have hh := And.intro hq hq2
      repeat' (first | refine go ?_ | (refine br (fun hc => ?_) (fun hc => ?_) <;> try (exfalso; omega)) | fail)
      exact again 8 ⟨by omega, fun _ => e1, fun _ => e2, fun _ => e3, fun _ => e4, fun _ => e5, fun _ => e6, fun _ => hq, fun h => absurd h (by omega), fun h => absurd h (by omega)⟩
  · clear hi
    have e1 := f1 (by omega)
    have e2 := f2 (by omega)
    have e3 := f3 (by omega)
    have e4 := f4 (by omega)
    have e5 := f5 (by omega)
    have e6 := f6 (by omega)
    have e7 := f7 (by omega)
    by_cases hq : s.map lowB = [113, 117, 105, 116]
    · have hh := hq
      repeat' (first | refine go ?_ | (refine br (fun hc => ?_) (fun hc => ?_) <;> try (exfalso; omega)) | fail)
      refine .now ⟨?_, rfl⟩
      rw [show verbL (s.map lowB) = 8 by unfold verbL; rw [if_neg e1, if_neg e2, if_neg e3, if_neg e4, if_neg e5, if_neg e6, if_neg e7, if_pos hq]]
    · have hq2 : ¬ [113, 117, 105, 116] = s.map lowB := fun h => hq h.symm
      have hh := And.intro hq hq2
      repeat' (first | refine go ?_ | (refine br (fun hc => ?_) (fun hc => ?_) <;> try (exfalso; omega)) | fail)
      exact again 9 ⟨by omega, fun _ => e1, fun _ => e2, fun _ => e3, fun _ => e4, fun _ => e5, fun _ => e6, fun _ => e7, fun _ => hq, fun h => absurd h (by omega)⟩
  · clear hi
    have e1 := f1 (by omega)
    have e2 := f2 (by omega)
    have e3 := f3 (by omega)
    have e4 := f4 (by omega)
    have e5 := f5 (by omega)
    have e6 := f6 (by omega)
    have e7 := f7 (by omega)
    have e8 := f8 (by omega)
    by_cases hq : s.map lowB = [118, 114, 102, 121]
    · have hh := hq
      repeat' (first | refine go ?_ | (refine br (fun hc => ?_) (fun hc => ?_) <;> try (exfalso; omega)) | fail)
      refine .now ⟨?_, rfl⟩
      rw [show verbL (s.map lowB) = 9 by unfold verbL; rw [if_neg e1, if_neg e2, if_neg e3, if_neg e4, if_neg e5, if_neg e6, if_neg e7, if_neg e8, if_pos hq]]
    · have hq2 : ¬ [118, 114, 102, 121] = s.map lowB := fun h => hq h.symm
      have hh := And.intro hq hq2
      repeat' (first | refine go ?_ | (refine br (fun hc => ?_) (fun hc => ?_) <;> try (exfalso; omega)) | fail)
      exact again 10 ⟨by omega, fun _ => e1, fun _ => e2, fun _ => e3, fun _ => e4, fun _ => e5, fun _ => e6, fun _ => e7, fun _ => e8, fun _ => hq⟩
  · clear hi
    have e1 := f1 (by omega)
    have e2 := f2 (by omega)
    have e3 := f3 (by omega)
    have e4 := f4 (by omega)
    have e5 := f5 (by omega)
    have e6 := f6 (by omega)
    have e7 := f7 (by omega)
    have e8 := f8 (by omega)
    have e9 := f9 (by omega)
    repeat' (first | refine go ?_ | (refine br (fun hc => ?_) (fun hc => ?_) <;> try (exfalso; omega)) | fail)
    refine .now ⟨?_, rfl⟩
    rw [show verbL (s.map lowB) = 0 by unfold verbL; rw [if_neg e1, if_neg e2, if_neg e3, if_neg e4, if_neg e5, if_neg e6, if_neg e7, if_neg e8, if_neg e9]]

/-- A small word's byte, asked either way. -/
theorem up_low (c b : UInt8) (hb : 97 ≤ b.toNat ∧ b.toNat ≤ 122) : upB c = b - 32 ↔ lowB c = b := by
  have key : ∀ n, n < 256 → ∀ m, m < 26 → ((if 97 ≤ n ∧ n ≤ 122 then UInt8.ofNat n - 32 else UInt8.ofNat n) = UInt8.ofNat (97 + m) - 32 ↔ (if 65 ≤ n ∧ n ≤ 90 then UInt8.ofNat n + 32 else UInt8.ofNat n) = UInt8.ofNat (97 + m)) := by decide +kernel
  have := key c.toNat c.toNat_lt (b.toNat - 97) (by omega)
  rw [show 97 + (b.toNat - 97) = b.toNat by omega, UInt8.ofNat_toNat, UInt8.ofNat_toNat] at this
  exact this
theorem up_low_other (c b : UInt8) (hb : b.toNat < 65) : upB c = b ↔ lowB c = b := by
  have key : ∀ n, n < 256 → ∀ m, m < 65 → ((if 97 ≤ n ∧ n ≤ 122 then UInt8.ofNat n - 32 else UInt8.ofNat n) = UInt8.ofNat m ↔ (if 65 ≤ n ∧ n ≤ 90 then UInt8.ofNat n + 32 else UInt8.ofNat n) = UInt8.ofNat m) := by decide +kernel
  have := key c.toNat c.toNat_lt b.toNat hb
  rw [UInt8.ofNat_toNat, UInt8.ofNat_toNat] at this
  exact this
/-- A text asked for in either size. -/
theorem up_low_all : ∀ (w s : List UInt8), (∀ b ∈ w, 97 ≤ b.toNat ∧ b.toNat ≤ 122 ∨ b.toNat < 65) → (s.map upB = w.map upB ↔ s.map lowB = w)
  | [], s, _ => by simp
  | b :: w, [], _ => by simp
  | b :: w, c :: s, h => by
    have ih := up_low_all w s (fun x hx => h x (by simp [hx]))
    have h1 : upB c = upB b ↔ lowB c = b := by
      rcases h b (by simp) with h | h
      · rw [show upB b = b - 32 by unfold upB; rw [if_pos h]]; exact up_low c b h
      · rw [show upB b = b by unfold upB; rw [if_neg (by omega)]]; exact up_low_other c b h
    simp only [List.map_cons, List.cons.injEq, h1, ih]
theorem verb_same (s : List UInt8) : verbU (s.map upB) = verbL (s.map lowB) := by
  have k : ∀ w : List UInt8, (∀ b ∈ w, 97 ≤ b.toNat ∧ b.toNat ≤ 122 ∨ b.toNat < 65) → (s.map upB = w.map upB ↔ s.map lowB = w) := fun w => up_low_all w s
  have k1 : s.map upB = [72, 69, 76, 79] ↔ s.map lowB = [104, 101, 108, 111] := k [104, 101, 108, 111] (by decide)
  have k2 : s.map upB = [69, 72, 76, 79] ↔ s.map lowB = [101, 104, 108, 111] := k [101, 104, 108, 111] (by decide)
  have k3 : s.map upB = [77, 65, 73, 76] ↔ s.map lowB = [109, 97, 105, 108] := k [109, 97, 105, 108] (by decide)
  have k4 : s.map upB = [82, 67, 80, 84] ↔ s.map lowB = [114, 99, 112, 116] := k [114, 99, 112, 116] (by decide)
  have k5 : s.map upB = [68, 65, 84, 65] ↔ s.map lowB = [100, 97, 116, 97] := k [100, 97, 116, 97] (by decide)
  have k6 : s.map upB = [82, 83, 69, 84] ↔ s.map lowB = [114, 115, 101, 116] := k [114, 115, 101, 116] (by decide)
  have k7 : s.map upB = [78, 79, 79, 80] ↔ s.map lowB = [110, 111, 111, 112] := k [110, 111, 111, 112] (by decide)
  have k8 : s.map upB = [81, 85, 73, 84] ↔ s.map lowB = [113, 117, 105, 116] := k [113, 117, 105, 116] (by decide)
  have k9 : s.map upB = [86, 82, 70, 89] ↔ s.map lowB = [118, 114, 102, 121] := k [118, 114, 102, 121] (by decide)
  unfold verbU verbL
  simp only [k1, k2, k3, k4, k5, k6, k7, k8, k9]

end Go.Ab.Tryz

end

section
set_option linter.unusedSimpArgs false
set_option linter.unusedVariables false
set_option maxHeartbeats 4000000
set_option maxRecDepth 4000
namespace Go.Ab.Tryz
open Go Go.Ab Go.Proofs
attribute [local irreducible] W Wl Wop TrA WSeq WLoopS FPost DPost RPost WRound DK onEnd
variable {n0 : Nat} {w0 : World} {gl : Nat → List AV} {H : List AO}
attribute [local simp] belowL_bytesAV

/-- What stands behind a text, asked for in either size. -/
def skipR (what s : List UInt8) : Option (List UInt8) := if what.length ≤ s.length ∧ (s.take what.length).map upB = what then some (s.drop what.length) else none

theorem skip_some {a : Nat} {what s r : List UInt8} (hs : s.length ≤ 1000000) (hw : what.length ≤ 100) (hA : H[a]? = some (.cells [.str s])) (h : skipR what s = some r) :
    AEnter (env n0 w0 gl) 97 [.ref a 0, .str what] H (fun y H' => y = .ret (.bool true) ∧ H' = H.set a (.cells [.str r])) := by
  unfold skipR at h
  split at h
  · rename_i hc
    injection h with h; subst h
    obtain ⟨h1, h2⟩ := hc
    have hh := And.intro hA h2
    refine enter (md := fun _ => 0) Tryz.func97 (fun hfit hgl => ?_)
    repeat' (first | refine go ?_ | (refine br (fun hc => ?_) (fun hc => ?_) <;> try (exfalso; omega)) | fail)
    all_goals first
      | exact .now ⟨rfl, rfl⟩
      | trace_state
  · simp at h
theorem skip_none {a : Nat} {what s : List UInt8} (hs : s.length ≤ 1000000) (hw : what.length ≤ 100) (hA : H[a]? = some (.cells [.str s])) (h : skipR what s = none) :
    AEnter (env n0 w0 gl) 97 [.ref a 0, .str what] H (fun y H' => y = .ret (.bool false) ∧ H' = H) := by
  unfold skipR at h
  split at h
  · simp at h
  · rename_i hc
    by_cases h1 : what.length ≤ s.length
    · have h2 : ¬ (s.take what.length).map upB = what := fun h2 => hc ⟨h1, h2⟩
      have hh := And.intro hA h2
      refine enter (md := fun _ => 0) Tryz.func97 (fun hfit hgl => ?_)
      repeat' (first | refine go ?_ | (refine br (fun hc => ?_) (fun hc => ?_) <;> try (exfalso; omega)) | fail)
      all_goals first
        | exact .now ⟨rfl, rfl⟩
        | trace_state
    · have hh := hA
      refine enter (md := fun _ => 0) Tryz.func97 (fun hfit hgl => ?_)
      repeat' (first | refine go ?_ | (refine br (fun hc => ?_) (fun hc => ?_) <;> try (exfalso; omega)) | fail)
      all_goals first
        | exact .now ⟨rfl, rfl⟩
        | trace_state

instance hasPrefix1_t (s : List UInt8) : Ctr (env n0 w0 gl) 135 [.str s, .str [60]] H (s.length ≤ 1000000) (.bool (decide (s.take 1 = [60]))) H := .of fun hs => by
  by_cases h1 : 1 ≤ s.length
  · refine enter (md := fun _ => 0) Tryz.func135 (fun hfit hgl => ?_)
    repeat' (first | refine go ?_ | (refine br (fun hc => ?_) (fun hc => ?_) <;> try (exfalso; omega)) | fail)
    exact .now ⟨rfl, rfl⟩
  · obtain rfl : s = [] := List.length_eq_zero_iff.1 (by omega)
    refine enter (md := fun _ => 0) Tryz.func135 (fun hfit hgl => ?_)
    repeat' (first | refine go ?_ | (refine br (fun hc => ?_) (fun hc => ?_) <;> try (exfalso; omega)) | fail)
    exact .now ⟨rfl, rfl⟩

/-- An address in brackets, and what is behind it. -/
noncomputable def pathR (s : List UInt8) : Option (List UInt8 × List UInt8) := if s.take 1 = [60] then (match cutAt 62 (s.drop 1) with
  | some (x, y) => if tf (x.length = 0 ∨ MailboxOk x) then some (x, y) else none
  | none => none) else none
noncomputable def pathV (s : List UInt8) : AV := match pathR s with
  | some (x, y) => .tup [.str x, .str y, .bool true]
  | none => .tup [.str [], .str s, .bool false]

instance pathParse_t (s : List UInt8) : Ctr (env n0 w0 gl) 98 [.str s] H (s.length ≤ 1000000) (pathV s) H := .of fun hs => by
  have hcp : ∀ H, Ctr (env n0 w0 gl) 107 [.str s, .str [60]] H True (if s.take 1 = [60] then .tup [.str (s.drop 1), .bool true] else .tup [.str s, .bool false]) H := fun H => .of fun _ => by
    have h2 : ∀ H, Ctr (env n0 w0 gl) 123 [.str s, .str [60]] H True (if s.take 1 = [60] then .tup [.str (s.drop 1), .bool true] else .tup [.str s, .bool false]) H := fun H => .of fun _ => by
      by_cases hp : s.take 1 = [60]
      · have hl : 1 ≤ s.length := by have := congrArg List.length hp; simp at this; omega
        rw [if_pos hp]
        have hh := hp
        refine enter (md := fun _ => 0) Tryz.func123 (fun hfit hgl => ?_)
        repeat' (first | refine go ?_ | (refine br (fun hc => ?_) (fun hc => ?_) <;> try (exfalso; omega)) | fail)
        exact .now ⟨rfl, rfl⟩
      · rw [if_neg hp]
        have hh := hp
        refine enter (md := fun _ => 0) Tryz.func123 (fun hfit hgl => ?_)
        repeat' (first | refine go ?_ | (refine br (fun hc => ?_) (fun hc => ?_) <;> try (exfalso; omega)) | fail)
        exact .now ⟨rfl, rfl⟩
    by_cases hp : s.take 1 = [60]
    · rw [if_pos hp] at h2 ⊢
      refine enter (md := fun _ => 0) Tryz.func107 (fun hfit hgl => ?_)
      repeat' (first | refine go ?_ | (refine br (fun hc => ?_) (fun hc => ?_) <;> try (exfalso; omega)) | fail)
      exact .now ⟨rfl, rfl⟩
    · rw [if_neg hp] at h2 ⊢
      refine enter (md := fun _ => 0) Tryz.func107 (fun hfit hgl => ?_)
      repeat' (first | refine go ?_ | (refine br (fun hc => ?_) (fun hc => ?_) <;> try (exfalso; omega)) | fail)
      exact .now ⟨rfl, rfl⟩
  unfold pathV pathR
  by_cases hp : s.take 1 = [60]
  · rw [if_pos hp] at hcp ⊢
    rcases hc : cutAt 62 (s.drop 1) with _ | ⟨x, y⟩
    · have hh : cutV 62 (s.drop 1) = .tup [.str (s.drop 1), .str [], .bool false] := by simp only [cutV, hc]
      have hl : (s.drop 1).length ≤ 1000000 := by rw [List.length_drop]; omega
      refine enter (md := fun _ => 0) Tryz.func98 (fun hfit hgl => ?_)
      repeat' (first | refine go ?_ | (refine br (fun hc => ?_) (fun hc => ?_) <;> try (exfalso; omega)) | fail)
      exact .now ⟨rfl, rfl⟩
    · have hv : cutV 62 (s.drop 1) = .tup [.str x, .str y, .bool true] := by simp only [cutV, hc]
      have hl : (s.drop 1).length ≤ 1000000 := by rw [List.length_drop]; omega
      have hcl := cutAt_len hc
      by_cases hx : x.length = 0 ∨ MailboxOk x
      · simp only [tf_true hx, if_true]
        by_cases hm : MailboxOk x
        · have hh := And.intro hv (tf_true hm)
          refine enter (md := fun _ => 0) Tryz.func98 (fun hfit hgl => ?_)
          repeat' (first | refine go ?_ | (refine br (fun hc => ?_) (fun hc => ?_) <;> try (exfalso; omega)) | fail)
          all_goals exact .now ⟨rfl, rfl⟩
        · have h0 : x.length = 0 := hx.resolve_right hm
          have hh := hv
          refine enter (md := fun _ => 0) Tryz.func98 (fun hfit hgl => ?_)
          repeat' (first | refine go ?_ | (refine br (fun hc => ?_) (fun hc => ?_) <;> try (exfalso; omega)) | fail)
          all_goals exact .now ⟨rfl, rfl⟩
      · simp only [tf_false hx, Bool.false_eq_true, if_false]
        have h0 : x.length ≠ 0 := fun h => hx (.inl h)
        have hh := And.intro hv (tf_false (p := MailboxOk x) fun h => hx (.inr h))
        refine enter (md := fun _ => 0) Tryz.func98 (fun hfit hgl => ?_)
        repeat' (first | refine go ?_ | (refine br (fun hc => ?_) (fun hc => ?_) <;> try (exfalso; omega)) | fail)
        all_goals exact .now ⟨rfl, rfl⟩
  · rw [if_neg hp] at hcp ⊢
    refine enter (md := fun _ => 0) Tryz.func98 (fun hfit hgl => ?_)
    repeat' (first | refine go ?_ | (refine br (fun hc => ?_) (fun hc => ?_) <;> try (exfalso; omega)) | fail)
    exact .now ⟨rfl, rfl⟩

end Go.Ab.Tryz

end
