/- Walks: a part taken. -/
import Derived.Test.YtpdjgbpmlckepaaGreatDoorLConvA
import Derived.Test.YtpdjgbpmlckepaaGreatDoorLNum
import Derived.Test.YtpdjgbpmlckepaaGreatDoorFrE
set_option linter.unusedSimpArgs false
set_option linter.unusedVariables false
set_option maxHeartbeats 4000000
set_option maxRecDepth 4000
namespace Go.Ab.Tryz
open Go Go.Ab Go.Proofs
attribute [local irreducible] W Wl Wop TrA WSeq WLoopS FPost DPost RPost WRound DK onEnd
variable {n0 : Nat} {w0 : World} {gl : Nat → List AV} {H : List AO}
attribute [local simp] belowL_bytesAV

theorem row_bytes (s : List UInt8) (i : Nat) (h : i < s.length) : List.take 1 (List.drop i (bytesAV s)) = [.int .u8 ((s.getD i 0).toNat : Int)] := by
  have := row1 (xs := bytesAV s) (i := i) (by simp [bytesAV]; omega)
  rw [this]; simp [bytesAV, byteAV, List.getD_eq_getElem?_getD, h]
/-- A part may be taken: its length ends at place i. -/
def TakeOk (b : List UInt8) (i : Nat) : Prop :=
  1 ≤ i ∧ ¬ (b.getD 0 0 = 48 ∧ 1 < i) ∧ AllDig (b.take i) ∧ decVal (b.take i) ≤ 1000000 ∧ decVal (b.take i) + i + 1 < b.length ∧ b.getD (i + 1 + decVal (b.take i)) 0 = 44
open Classical in
/-- The first part, and how many bytes it takes. -/
noncomputable def cut15R (b : List UInt8) : Option (List UInt8 × Nat) :=
  if 0 ≤ Lib.indexByte (b.take 9) 58 ∧ TakeOk b (Lib.indexByte (b.take 9) 58).toNat then
    some ((b.drop ((Lib.indexByte (b.take 9) 58).toNat + 1)).take (decVal (b.take (Lib.indexByte (b.take 9) 58).toNat)), (Lib.indexByte (b.take 9) 58).toNat + decVal (b.take (Lib.indexByte (b.take 9) 58).toNat) + 2)
  else none
theorem cut15R_none {b : List UInt8} (h : Lib.indexByte (b.take 9) 58 = -1) : cut15R b = none := by unfold cut15R; rw [if_neg (by omega)]
theorem cut15R_at {b : List UInt8} {k : Nat} (h : Lib.indexByte (b.take 9) 58 = (k : Int)) (hk : TakeOk b k) : cut15R b = some ((b.drop (k + 1)).take (decVal (b.take k)), k + decVal (b.take k) + 2) := by
  unfold cut15R; rw [h, if_pos ⟨by omega, by simpa using hk⟩]; simp
theorem cut15R_bad {b : List UInt8} {k : Nat} (h : Lib.indexByte (b.take 9) 58 = (k : Int)) (hk : ¬ TakeOk b k) : cut15R b = none := by
  unfold cut15R; rw [h, if_neg (fun h => hk (by simpa using h.2))]
def cut15V : Option (List UInt8 × Nat) → AV
  | some (x, n) => .tup [.sl x.length (bytesAV x) .ro, .int .i64 n]
  | none => .tup [.sl 0 [] .full, .int .i64 0]

theorem decVal_small {s : List UInt8} (h : AllDig s) (hl : s.length ≤ 9) : decVal s ≤ 999999999 := by
  have key : ∀ i, i ≤ s.length → decVal (s.take i) < 10 ^ i := by
    intro i
    induction i with
    | zero => intro _; simp [decVal]
    | succ i ih =>
      intro hi
      have := h i (by omega)
      rw [decVal_succ (by omega), Nat.pow_succ]
      have := ih (by omega)
      omega
  have := key s.length (Nat.le_refl _)
  rw [List.take_length] at this
  have h10 : 10 ^ s.length ≤ 10 ^ 9 := Nat.pow_le_pow_right (by decide) hl
  omega

theorem cut_e (b : List UInt8) (hb : b.length ≤ 9223372036854775000) : AEnter (env n0 w0 gl) 132 [.sl b.length (bytesAV b) .ro] H (fun y H' => y = .ret (cut15V (cut15R b)) ∧ H' = H) := by
  have hM : (if 9 < (b.length : Int) then 9 else (b.length : Int)).toNat = min b.length 9 := by split <;> omega
  have hi : ∀ H tok, Ctr (env n0 w0 gl) 176 [.sl ((if 9 < (b.length : Int) then 9 else (b.length : Int)).toNat - 0) (List.take (if 9 < (b.length : Int) then 9 else (b.length : Int)).toNat (bytesAV b)) tok, .int .u8 58] H True (.int .i64 (Lib.indexByte (b.take 9) 58)) H := fun H tok => ⟨fun _ => by
    have := (bIndexByte58_t (n0 := n0) (w0 := w0) (gl := gl) (H := H) (b.take 9) tok).call trivial
    rw [show (b.take 9).length = min b.length 9 by simp [Nat.min_comm], show bytesAV (b.take 9) = List.take (min b.length 9) (bytesAV b) by
      rw [show List.take (min b.length 9) (bytesAV b) = bytesAV (b.take (min b.length 9)) by simp [bytesAV]]
      congr 1
      rcases Nat.le_total b.length 9 with h | h
      · rw [Nat.min_eq_left h, List.take_length, List.take_of_length_le h]
      · rw [Nat.min_eq_right h]] at this
    rw [hM]; exact this⟩
  rcases indexByte_cases (b.take 9) 58 with ⟨hx, _⟩ | ⟨k, hk, hx, hkc, hkn⟩
  · rw [hx] at hi
    rw [cut15R_none hx]
    refine enter (md := fun _ => 0) Tryz.func132 (fun hfit hgl => ?_)
    repeat' (first | refine go ?_ | (refine br (fun hc => ?_) (fun hc => ?_) <;> try (exfalso; omega)) | fail)
    exact .now ⟨rfl, rfl⟩
  · rw [hx] at hi
    have hk9 : k < 9 := by rw [List.length_take] at hk; omega
    have hkb : k < b.length := by rw [List.length_take] at hk; omega
    have h0 : List.take 1 (bytesAV b) = [.int .u8 ((b.getD 0 0).toNat : Int)] := by
      have := row1 (xs := bytesAV b) (i := 0) (by simp [bytesAV]; omega)
      rw [List.drop_zero] at this
      rw [this]; simp [bytesAV, byteAV, List.getD_eq_getElem?_getD, show 0 < b.length by omega]
    have htk : List.take k (bytesAV b) = bytesAV (b.take k) := by simp [bytesAV]
    have htl : (b.take k).length = k := by rw [List.length_take]; omega
    have hite : ∀ (p : Prop) [Decidable p] (a : Tok), (if p then a else a) = a := fun p _ a => ite_self a
    have hh := And.intro h0 (And.intro (Nat.sub_zero k) (And.intro htk (And.intro htl hite)))
    refine enter (md := fun _ => 0) Tryz.func132 (fun hfit hgl => ?_)
    repeat' (first | refine go ?_ | (refine br (fun hc => ?_) (fun hc => ?_) <;> try (exfalso; omega)) | fail)
    · rw [cut15R_bad hx (fun h => by have := h.1; omega)]
      exact .now ⟨rfl, rfl⟩
    · rw [cut15R_bad hx (fun h => h.2.1 ⟨UInt8.toNat_inj.1 (show (b.getD 0 0).toNat = (48 : UInt8).toNat by show _ = 48; omega), by omega⟩)]
      exact .now ⟨rfl, rfl⟩
    all_goals
      have hk1 : 1 ≤ k := by omega
      have hlead : ¬ (b.getD 0 0 = 48 ∧ 1 < k) := fun ⟨h, h'⟩ => by
        have : (b.getD 0 0).toNat = 48 := by rw [h]; rfl
        omega
      refine loop0 (fun j : Nat => (.sl b.length (bytesAV b) .ro :: .top :: .sl 0 [] .full :: .int .i64 0 :: .int .i64 (k : Int) :: .int .i64 (decVal (b.take j) : Nat) :: .top :: .top :: .top :: .top :: .top :: .top :: .top :: .top :: .top :: .top :: .top :: .top :: .top :: .top :: .top :: .top :: .top :: .top :: .top :: .top :: .top :: .top :: .sl k (bytesAV (b.take k)) .ro :: .int .i64 (k : Int) :: .int .i64 (j : Int) :: .top :: .top :: .top :: .top :: .top :: .top :: .top :: .top :: .top :: .top :: .top :: .top :: .top :: .top :: .top :: .top :: .top :: .top :: .top :: .top :: .top :: .top :: .top :: .top :: .top :: .top :: .top :: .top :: .top :: .top :: .top :: .top :: .top :: .top :: .top :: .top :: .top :: .top :: .top :: .top :: .top :: .top :: .top :: .top :: .top :: .top :: .top :: .top :: .top :: [])) (fun j => j ≤ k ∧ (∀ m, m < j → 48 ≤ (b.getD m 0).toNat ∧ (b.getD m 0).toNat ≤ 57) ∧ decVal (b.take j) < 10 ^ j) (fun j => k - j) 0 ⟨Nat.zero_le _, fun k h => absurd h (Nat.not_lt_zero _), by simp [decVal]⟩ ?_
      rintro j ⟨hj, hall, hval⟩
      have hval9 : decVal (b.take j) < 1000000000 := Nat.lt_of_lt_of_le hval (Nat.le_trans (Nat.pow_le_pow_right (by decide) (show j ≤ 9 by omega)) (by decide))
      by_cases hlt : j < k
      · have hat : List.take 1 (List.drop j (bytesAV (b.take k))) = [.int .u8 ((b.getD j 0).toNat : Int)] := by
          rw [row_bytes _ _ (by omega), show (b.take k).getD j 0 = b.getD j 0 by simp [List.getD_eq_getElem?_getD, List.getElem?_take, hlt]]
        have hsu := decVal_succ (s := b) (i := j) (by omega)
        have hc256 := (b.getD j 0).toNat_lt
        have hbad : ¬ (48 ≤ (b.getD j 0).toNat ∧ (b.getD j 0).toNat ≤ 57) → cut15R b = none := fun h => cut15R_bad hx (fun ht => h (by
          have := ht.2.2.1 j (by omega)
          rwa [show (b.take k).getD j 0 = b.getD j 0 by simp [List.getD_eq_getElem?_getD, List.getElem?_take, hlt]] at this))
        clear hh
        have hh := And.intro hat htl
        repeat' (first | refine go ?_ | (refine br (fun hc => ?_) (fun hc => ?_) <;> try (exfalso; omega)) | fail)
        · rw [hbad (by omega)]
          exact .now ⟨rfl, rfl⟩
        · rw [hbad (by omega)]
          exact .now ⟨rfl, rfl⟩
        · have e1 : 10 * ((decVal (List.take j b) : Nat) : Int) + (((b.getD j 0).toNat : Int) - 48) = ((decVal (b.take (j + 1)) : Nat) : Int) := by rw [hsu]; omega
          rw [e1]
          refine again (j + 1) ⟨by omega, fun m hm => ?_, ?_⟩ (by omega)
          · rcases Nat.lt_succ_iff_lt_or_eq.1 hm with h | h
            · exact hall m h
            · subst h; omega
          · rw [hsu, Nat.pow_succ]; omega
      · obtain rfl : j = k := by omega
        clear hh
        have hrow := row_bytes b
        have hh := hrow
        have hdig : AllDig (b.take j) := fun m hm => by
          have := hall m (by omega)
          rwa [show (b.take j).getD m 0 = b.getD m 0 by simp [List.getD_eq_getElem?_getD, List.getElem?_take, show m < j by omega]]
        have hnat : ((j : Int) + 1 + ((decVal (List.take j b) : Nat) : Int)).toNat = j + 1 + decVal (b.take j) := by omega
        repeat' (first | refine go ?_ | (refine br (fun hc => ?_) (fun hc => ?_) <;> try (exfalso; omega)) | fail)
        · rw [cut15R_bad hx (fun h => by have := h.2.2.2.1; omega)]
          exact .now ⟨rfl, rfl⟩
        · rw [cut15R_bad hx (fun h => by have := h.2.2.2.2.1; omega)]
          exact .now ⟨rfl, rfl⟩
        · rw [cut15R_bad hx (fun h => by
            have := h.2.2.2.2.2
            rw [hnat, this] at hc
            exact hc rfl)]
          exact .now ⟨rfl, rfl⟩
        · rw [cut15R_at hx ⟨hk1, hlead, hdig, by omega, by omega, by rw [hnat] at hc; exact UInt8.toNat_inj.1 (show (b.getD _ 0).toNat = (44 : UInt8).toNat by show _ = 44; omega)⟩]
          refine .now ⟨?_, rfl⟩
          have e2 : ((b.drop (j + 1)).take (decVal (b.take j))).length = decVal (b.take j) := by rw [List.length_take, List.length_drop]; omega
          simp only [cut15V, e2, hnat]
          rw [show j + 1 + decVal (b.take j) - (j + 1) = decVal (b.take j) by omega, show List.drop (j + 1) (List.take (j + 1 + decVal (b.take j)) (bytesAV b)) = bytesAV ((b.drop (j + 1)).take (decVal (b.take j))) by
            rw [List.drop_take, show j + 1 + decVal (b.take j) - (j + 1) = decVal (b.take j) by omega]; simp [bytesAV]]
          congr 4

end Go.Ab.Tryz
