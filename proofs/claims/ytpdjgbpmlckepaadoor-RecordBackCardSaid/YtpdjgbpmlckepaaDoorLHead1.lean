/- Walks: head's ground. -/
import Derived.Test.YtpdjgbpmlckepaaDoorLStr
set_option linter.unusedSimpArgs false
set_option linter.unusedVariables false
set_option maxHeartbeats 2000000
set_option maxRecDepth 4000
namespace Go.Ab.Tryd
open Go Go.Ab Go.Proofs
attribute [local irreducible] W Wl Wop TrA WSeq WLoopS FPost DPost RPost WRound DK onEnd
variable {n0 : Nat} {w0 : World} {gl : Nat → List AV} {H : List AO}

/-- A byte that may stand in a name. -/
def nameB (c : UInt8) : Prop := 32 < c.toNat ∧ c.toNat < 127 ∧ c.toNat ≠ 58
/-- Whether a text is a field's name. -/
def NameOk (s : List UInt8) : Prop := (∀ i, i < s.length → nameB (s.getD i 0)) ∧ s.length ≠ 0 ∧ s.length ≤ 100

/-- A byte made small. -/
def lowB (c : UInt8) : UInt8 := if 65 ≤ c.toNat ∧ c.toNat ≤ 90 then c + 32 else c
/-- A text made small up to a place. -/
def lowTo (s : List UInt8) (i : Nat) : List UInt8 := (s.take i).map lowB ++ s.drop i
theorem lowTo_len (s : List UInt8) (i : Nat) : (lowTo s i).length = s.length := by simp [lowTo]; omega
theorem lowTo_get {s : List UInt8} {i : Nat} (h : i < s.length) : (bytesAV (lowTo s i)).getD i .top = .int .u8 (s.getD i 0).toNat := by
  simp [bytesAV, lowTo, byteAV, List.getD_eq_getElem?_getD, List.getElem?_append_right, h, Nat.min_eq_left (Nat.le_of_lt h)]
theorem lowTo_succ {s : List UInt8} {i : Nat} (h : i < s.length) : lowTo s (i + 1) = (lowTo s i).set i (lowB (s.getD i 0)) := by
  unfold lowTo
  rw [List.set_append_right _ _ (by simp; omega), List.take_add_one, List.map_append, List.append_assoc]
  congr 1
  have e : i - ((s.take i).map lowB).length = 0 := by simp; omega
  rw [e, List.drop_eq_getElem_cons h]
  simp only [List.set_cons_zero]
  simp [h]
theorem lowTo_same {s : List UInt8} {i : Nat} (h : i < s.length) (hc : ¬ (65 ≤ (s.getD i 0).toNat ∧ (s.getD i 0).toNat ≤ 90)) : lowTo s (i + 1) = lowTo s i := by
  rw [lowTo_succ h]
  have : lowB (s.getD i 0) = s.getD i 0 := by unfold lowB; rw [if_neg hc]
  rw [this]
  apply List.ext_getElem?
  intro k
  by_cases e : i = k
  · subst e
    rw [List.getElem?_set_self (by rw [lowTo_len]; exact h)]
    simp [lowTo, List.getElem?_append_right, h, Nat.min_eq_left (Nat.le_of_lt h)]
  · rw [List.getElem?_set_ne e]

theorem bytesAV_set {xs : List UInt8} {i : Nat} {c : UInt8} (h : i < xs.length) : bytesAV (xs.set i c) = (bytesAV xs).take i ++ .int .u8 c.toNat :: (bytesAV xs).drop (i + 1) := by
  unfold bytesAV
  rw [List.map_set, List.set_eq_take_append_cons_drop, if_pos (by simpa using h)]; rfl
theorem lowB_or (c : UInt8) (h1 : 65 ≤ c.toNat) (h2 : c.toNat ≤ 90) : bitsOf BinOp.or .u8 (c.toNat : Int) 32 = ((lowB c).toNat : Int) := by
  have key : ∀ n, n < 256 → 65 ≤ n → n ≤ 90 → bitsOf BinOp.or .u8 ((n : Nat) : Int) 32 = ((UInt8.ofNat n + 32).toNat : Int) := by decide +kernel
  have := key c.toNat (by have := c.toNat_lt; omega) h1 h2
  rw [this]
  unfold lowB
  rw [if_pos ⟨h1, h2⟩, UInt8.ofNat_toNat]

end Go.Ab.Tryd
