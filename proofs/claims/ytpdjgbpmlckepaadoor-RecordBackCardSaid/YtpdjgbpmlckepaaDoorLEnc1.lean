/- Walks: letters; whole numbers as bytes. -/
import Derived.Test.YtpdjgbpmlckepaaDoorLConv2
import Derived.Test.YtpdjgbpmlckepaaDoorFrE
import Derived.Laws.RangeAny
set_option linter.unusedSimpArgs false
set_option linter.unusedVariables false
set_option maxHeartbeats 4000000
set_option maxRecDepth 4000
namespace Go.Ab.Tryd
open Go Go.Ab Go.Proofs
attribute [local irreducible] W Wl Wop TrA WSeq WLoopS FPost DPost RPost WRound DK onEnd
variable {n0 : Nat} {w0 : World} {gl : Nat → List AV} {H : List AO}
attribute [local simp] belowL_bytesAV

/-- Small letters alone, and not too many. -/
def LettersOk (s : List UInt8) : Prop := (∀ i, i < s.length → 97 ≤ (s.getD i 0).toNat ∧ (s.getD i 0).toNat ≤ 122) ∧ 1 ≤ s.length ∧ s.length ≤ 20

theorem small13_e (s : List UInt8) (hs : s.length ≤ 9223372036854775807) : AEnter (env n0 w0 gl) 93 [.str s, .int .i64 20] H (fun y H' => y = .ret (.bool (tf (LettersOk s))) ∧ H' = H) := by
  refine enter (md := fun _ => 0) Tryd.func93 (fun hfit hgl => ?_)
  repeat' (first | refine go ?_ | (refine br (fun hc => ?_) (fun hc => ?_) <;> try (exfalso; omega)) | fail)
  refine loop0 (fun i : Nat => (.str s :: .int .i64 20 :: .top :: .top :: .bool false :: .int .i64 (i : Int) :: .top :: .top :: .top :: .top :: .top :: .top :: .top :: .top :: .top :: .top :: .top :: .top :: .top :: .top :: .top :: .top :: .top :: .top :: .top :: .top :: .top :: .top :: .top :: .top :: .top :: [])) (fun i => i ≤ s.length ∧ ∀ k, k < i → 97 ≤ (s.getD k 0).toNat ∧ (s.getD k 0).toNat ≤ 122) (fun i => s.length - i) 0 ⟨Nat.zero_le _, fun k h => absurd h (Nat.not_lt_zero _)⟩ ?_
  rintro i ⟨hi, hall⟩
  by_cases hlt : i < s.length
  · repeat' (first | refine go ?_ | (refine br (fun hc => ?_) (fun hc => ?_) <;> try (exfalso; omega)) | fail)
    · rw [tf_false (p := LettersOk s) (fun h => by have := h.1 i hlt; omega)]; exact .now ⟨rfl, rfl⟩
    · rw [tf_false (p := LettersOk s) (fun h => by have := h.1 i hlt; omega)]; exact .now ⟨rfl, rfl⟩
    · refine again (i + 1) ⟨by omega, fun k hk => ?_⟩ (by omega)
      rcases Nat.lt_succ_iff_lt_or_eq.1 hk with h | h
      · exact hall k h
      · subst h; omega
  · obtain rfl : i = s.length := by omega
    repeat' (first | refine go ?_ | (refine br (fun hc => ?_) (fun hc => ?_) <;> try (exfalso; omega)) | fail)
    · rw [show tf (LettersOk s) = decide ((s.length : Int) ≤ 20) from by
        by_cases h : s.length ≤ 20
        · rw [tf_true (p := LettersOk s) ⟨hall, by omega, h⟩, decide_eq_true (by omega)]
        · rw [tf_false (p := LettersOk s) (fun h2 => h h2.2.2), decide_eq_false (by omega)]]
      exact .now ⟨rfl, rfl⟩
    · rw [tf_false (p := LettersOk s) (fun h => by have := h.2.1; omega)]; exact .now ⟨rfl, rfl⟩

theorem letters_e (s : List UInt8) (hs : s.length ≤ 9223372036854775807) : AEnter (env n0 w0 gl) 90 [.str s] H (fun y H' => y = .ret (.bool (tf (LettersOk s))) ∧ H' = H) := by
  refine enter (md := fun _ => 0) Tryd.func90 (fun hfit hgl => ?_)
  repeat' (first | refine go ?_ | (refine br (fun hc => ?_) (fun hc => ?_) <;> try (exfalso; omega)) | fail)
  refine loop (fun i : Nat => (.str s :: .top :: .bool false :: .top :: .top :: .top :: .ref H.length 0 :: .top :: .top :: .top :: .top :: .top :: .top :: .top :: .top :: .top :: .top :: .top :: .top :: .top :: .top :: .top :: .top :: [])) (fun i => H ++ [.iter s i]) (fun i => i ≤ s.length ∧ ∀ k, k < i → 97 ≤ (s.getD k 0).toNat ∧ (s.getD k 0).toNat ≤ 122) (fun i => s.length - i) 0 ⟨Nat.zero_le _, fun k h => absurd h (Nat.not_lt_zero _)⟩ ?_
  rintro i ⟨hi, hall⟩
  by_cases hlt : i < s.length
  · have hrow : (⟨s.toArray⟩ : ByteArray).size = s.length := by simp [ByteArray.size]
    have hge : (⟨s.toArray⟩ : ByteArray)[i]'(by rw [hrow]; exact hlt) = s.getD i 0 := by
      show s.toArray[i]'_ = _
      simp [List.getD_eq_getElem?_getD, hlt]
    by_cases ha : (s.getD i 0).toNat < 128
    · have hd := decode_ascii ⟨s.toArray⟩ i (by rw [hrow]; exact hlt) (by rw [hge]; exact ha)
      rw [hge] at hd
      have hh := And.intro hlt hd
      repeat' (first | refine go ?_ | (refine br (fun hc => ?_) (fun hc => ?_) <;> try (exfalso; omega)) | fail)
      · rw [tf_false (p := LettersOk s) (fun h => by have := h.1 i hlt; omega)]; exact .junkd ⟨rfl, rfl⟩
      · rw [tf_false (p := LettersOk s) (fun h => by have := h.1 i hlt; omega)]; exact .junkd ⟨rfl, rfl⟩
      · refine again (i + 1) ⟨by omega, fun k hk => ?_⟩ (by omega)
        rcases Nat.lt_succ_iff_lt_or_eq.1 hk with h | h
        · exact hall k h
        · subst h; omega
    · have hd := decode_high ⟨s.toArray⟩ i (by rw [hrow]; exact hlt) (by rw [hge]; omega)
      have hl2 := decode_le ⟨s.toArray⟩ i
      generalize hdd : Utf8.decode ⟨s.toArray⟩ i = dd at *
      have hh := And.intro hlt hdd
      repeat' (first | refine go ?_ | (refine br (fun hc => ?_) (fun hc => ?_) <;> try (exfalso; omega)) | fail)
      all_goals (rw [tf_false (p := LettersOk s) (fun h => by have := h.1 i hlt; omega)]; exact .junkd ⟨rfl, rfl⟩)
  · obtain rfl : i = s.length := by omega
    repeat' (first | refine go ?_ | (refine br (fun hc => ?_) (fun hc => ?_) <;> try (exfalso; omega)) | fail)
    · rw [show tf (LettersOk s) = decide ((s.length : Int) ≤ 20) from by
        by_cases h : s.length ≤ 20
        · rw [tf_true (p := LettersOk s) ⟨hall, by omega, h⟩, decide_eq_true (by omega)]
        · rw [tf_false (p := LettersOk s) (fun h2 => h h2.2.2), decide_eq_false (by omega)]]
      exact .junkd ⟨rfl, rfl⟩
    · rw [tf_false (p := LettersOk s) (fun h => by have := h.2.1; omega)]; exact .junkd ⟨rfl, rfl⟩

instance small13_t (s : List UInt8) : Ctr (env n0 w0 gl) 93 [.str s, .int .i64 20] H (s.length ≤ 9223372036854775807) (.bool (tf (LettersOk s))) H := .of fun hs => small13_e s hs
instance letters_t (s : List UInt8) : Ctr (env n0 w0 gl) 90 [.str s] H (s.length ≤ 9223372036854775807) (.bool (tf (LettersOk s))) H := .of fun hs => letters_e s hs

theorem slRo {g : Ghost} {n : Nat} {xs : List AV} {tok : Tok} {c : Value} (r : VRel g (.sl n xs tok) c) : VRel g (.sl n xs .ro) c := by
  cases r with
  | nsl t h => exact .nsl _ trivial
  | sl n xs tok b o cap vs hn hk hx ht => exact .sl n xs _ b o cap vs hn hk hx trivial

/-- A number's digits alone. -/
theorem appendUint0_e [ht : Tab10 n0 w0] (k : Nat) (hk : k < 9223372036854775808) :
    AEnter (env n0 w0 gl) 158 [.sl 0 [] .full, .int .u64 k, .int .i64 10] H (fun y H' => y = .ret (.sl (Lib.nDigits k) (bytesAV (Lib.decDigits k)) .ro) ∧ H' = H) := by
  have hd : Lib.nDigits k ≤ 20 := nDigits_le (by omega) (by omega)
  have hd1 := nDigits_pos k
  have hdl := Lib.decDigits_length k
  have hfb : Ctr (env n0 w0 gl) 153 [.msl H.length 0 (Lib.nDigits k), .int .u64 k] (H ++ [.cells (bytesAV zeros24)]) True (.tup []) (H ++ [.cells (bytesAV (Lib.decDigits k ++ zeros24.drop (Lib.nDigits k)))]) := by
    have := formatBase10_t (n0 := n0) (w0 := w0) (gl := gl) (H := H ++ [.cells (bytesAV zeros24)]) k zeros24 H.length (by simp) (by show _ ≤ 24; omega) (by decide) hd1 (lt_pow_nDigits k) (by omega)
    simpa using this
  have hz : bytesAV zeros24 = List.replicate 24 (.int .u8 0) := rfl
  rw [hz] at hfb
  simp only [List.replicate] at hfb
  have hh := And.intro (Nat.sub_zero (Lib.nDigits k)) <| And.intro (show Lib.nDigits k ≤ 24 by omega) (And.intro hdl (And.intro (take_digits k (zeros24.drop (Lib.nDigits k))) (show (Lib.decDigits k ++ zeros24.drop (Lib.nDigits k)).length = 24 by rw [List.length_append, hdl, List.length_drop]; show _ + (24 - _) = 24; omega)))
  refine enter (md := fun _ => 0) Tryd.func158 (fun hfit hgl => ?_)
  repeat' (first | refine go ?_ | (refine br (fun hc => ?_) (fun hc => ?_) <;> try (exfalso; omega)) | fail)
  all_goals exact Out.weak (fun g c r => slRo r) (.junkd ⟨rfl, rfl⟩)
instance appendInt0_t [ht : Tab10 n0 w0] (k : Nat) : Ctr (env n0 w0 gl) 83 [.sl 0 [] .full, .int .i64 k, .int .i64 10] H (k < 9223372036854775808) (.sl (Lib.nDigits k) (bytesAV (Lib.decDigits k)) .ro) H := .of fun hk => by
  have h1 : Ctr (env n0 w0 gl) 158 [.sl 0 [] .full, .int .u64 k, .int .i64 10] H True (.sl (Lib.nDigits k) (bytesAV (Lib.decDigits k)) .ro) H := .of fun _ => appendUint0_e k hk
  have h2 : Ctr (env n0 w0 gl) 127 [.sl 0 [] .full, .int .i64 k, .int .i64 10] H True (.sl (Lib.nDigits k) (bytesAV (Lib.decDigits k)) .ro) H := .of fun _ => by
    refine enter (md := fun _ => 0) Tryd.func127 (fun hfit hgl => ?_)
    repeat' (first | refine go ?_ | (refine br (fun hc => ?_) (fun hc => ?_) <;> try (exfalso; omega)) | fail)
    exact .now ⟨rfl, rfl⟩
  refine enter (md := fun _ => 0) Tryd.func83 (fun hfit hgl => ?_)
  repeat' (first | refine go ?_ | (refine br (fun hc => ?_) (fun hc => ?_) <;> try (exfalso; omega)) | fail)
  exact .now ⟨rfl, rfl⟩
instance number15_t [ht : Tab10 n0 w0] (k : Nat) : Ctr (env n0 w0 gl) 91 [.int .i64 k] H (k < 9223372036854775808) (.sl (Lib.nDigits k) (bytesAV (Lib.decDigits k)) .ro) H := .of fun hk => by
  refine enter (md := fun _ => 0) Tryd.func91 (fun hfit hgl => ?_)
  repeat' (first | refine go ?_ | (refine br (fun hc => ?_) (fun hc => ?_) <;> try (exfalso; omega)) | fail)
  exact .now ⟨rfl, rfl⟩
instance digits15_t [ht : Tab10 n0 w0] (k : Nat) : Ctr (env n0 w0 gl) 94 [.int .i64 k] H (k < 9223372036854775808) (.sl (Lib.nDigits k) (bytesAV (Lib.decDigits k)) .ro) H := .of fun hk => by
  have hf : ∀ H, Ctr (env n0 w0 gl) 75 [.int .i64 k, .int .i64 10] H True (.str (Lib.decDigits k)) H := fun H => ⟨fun _ => by
    have := (formatInt_t (n0 := n0) (w0 := w0) (gl := gl) (H := H) (k : Int)).call ⟨by omega, by omega⟩
    rwa [Lib.itoa_nonneg] at this⟩
  have hh := Lib.decDigits_length k
  refine enter (md := fun _ => 0) Tryd.func94 (fun hfit hgl => ?_)
  repeat' (first | refine go ?_ | (refine br (fun hc => ?_) (fun hc => ?_) <;> try (exfalso; omega)) | fail)
  exact .now ⟨rfl, rfl⟩

end Go.Ab.Tryd
