/- Walks: lines with their ends (the document). -/
import Derived.Test.YtocoejhiphcehaaGreatDoorSLn
import Derived.Test.YtocoejhiphcehaaGreatDoorLRound
import Derived.Test.YtocoejhiphcehaaGreatDoorLHeadA
import Derived.Test.YtocoejhiphcehaaGreatDoorAb32
set_option linter.unusedSimpArgs false
set_option linter.unusedVariables false
set_option maxHeartbeats 8000000
set_option maxRecDepth 10000
namespace Go.Ab.Tryz
open Go Go.Ab Go.Proofs
attribute [local irreducible] W Wl Wop TrA WSeq WLoopS FPost DPost RPost WRound DK onEnd
attribute [local simp] belowL_bytesAV belowL_strsM
variable {n0 : Nat} {w0 : World} {gl : Nat → List AV} {H : List AO}

def linesAV (l : List (List UInt8)) : List AV := l.map fun x => .sl x.length (bytesAV x) .ro
theorem belowL_linesAV (n : Nat) (l : List (List UInt8)) : belowL n (linesAV l) = true := by
  induction l with
  | nil => rfl
  | cons x l ih => simp only [linesAV, List.map_cons] at ih ⊢; simp [belowL, AV.within, belowL_bytesAV] at ih ⊢; exact ih
attribute [local simp] belowL_linesAV
theorem bytes_hd2 {s : List UInt8} {i : Nat} (h : i < s.length) : (List.take 1 (List.drop i (bytesAV s))).headD .top = .int .u8 ((s.getD i 0).toNat) := by
  rw [show List.drop i (bytesAV s) = bytesAV (List.drop i s) by simp [bytesAV], List.drop_eq_getElem_cons h]
  show byteAV _ = _
  simp [byteAV, List.getD_eq_getElem?_getD, h]
theorem linesAV_len (l : List (List UInt8)) : (linesAV l).length = l.length := by simp [linesAV]
def linV (b : List UInt8) : AV := .tup [.sl (linL b).1.length (linesAV (linL b).1) .ro, .sl (linL b).2.length (bytesAV (linL b).2) .ro]

theorem rlines_at {L : List (List UInt8)} {i : Nat} (h : i < L.length) : (linesAV L).getD i .top = .sl (L[i]).length (bytesAV L[i]) .ro := by
  rw [List.getD_eq_getElem?_getD]
  simp only [linesAV, List.getElem?_map, List.getElem?_eq_getElem h, Option.map_some, Option.getD_some]
theorem getD_some {b : List UInt8} {i : Nat} {c : UInt8} (h : i < b.length) (hc : (b.getD i 0).toNat = c.toNat) : b[i]? = some c := by
  rw [List.getElem?_eq_getElem h]
  congr 1
  have : b.getD i 0 = b[i] := by simp [List.getD_eq_getElem?_getD, h]
  rw [this] at hc
  exact UInt8.toNat_inj.1 hc
theorem not_end {b : List UInt8} {i : Nat} (h : ¬ (b.getD (i + 1) 0).toNat = 10 ∨ ¬ (b.getD i 0).toNat = 13) : ¬ EndAt b i := fun ⟨h1, h2⟩ => by
  rcases h with h | h
  · exact h (by simp [List.getD_eq_getElem?_getD, h2])
  · exact h (by simp [List.getD_eq_getElem?_getD, h1])
theorem ref_lines_e (b : List UInt8) (hb : b.length ≤ 1000000) : AEnter (env n0 w0 gl) 40 [.sl b.length (bytesAV b) .ro] H (fun y H' => y = .ret (linV b) ∧ H' = H) := by
  refine enter (md := fun _ => 0) Tryz.func40 (fun hfit hgl => ?_)
  repeat' (first | refine go ?_ | (refine br (fun hc => ?_) (fun hc => ?_) <;> try (exfalso; omega)) | fail)
  refine loop (fun j : Nat × Nat × List (List UInt8) => (.sl b.length (bytesAV b) .ro :: .top :: .sl 0 [] .full :: .sl 0 [] .full :: .sl j.2.2.length (linesAV j.2.2) (if j.2.2.length = 0 then .full else .at H.length j.2.2.length) :: .int .i64 (j.2.1 : Int) :: .int .i64 (j.1 : Int) :: .top :: .top :: .top :: .top :: .top :: .top :: .top :: .top :: .top :: .top :: .top :: .top :: .top :: .top :: .top :: .top :: .top :: .top :: .top :: .top :: .top :: .top :: .top :: .top :: .top :: .top :: .top :: .top :: .top :: .top :: .top :: .top :: .top :: .top :: .top :: .top :: .top :: .top :: .top :: [])) (fun j => if j.2.2.length = 0 then H else H ++ [.tail 1 j.2.2.length])
    (fun j => 1 ≤ j.1 ∧ j.1 ≤ b.length + 1 ∧ j.2.1 ≤ j.1 ∧ j.2.1 ≤ b.length ∧ j.2.2.length ≤ j.1 ∧ (∀ k, j.2.1 ≤ k → k + 1 < j.1 → ¬ EndAt b k) ∧ linL b = (j.2.2 ++ (linL (b.drop j.2.1)).1, (linL (b.drop j.2.1)).2)) (fun j => b.length + 1 - j.1) (1, 0, [])
    ⟨by simp only; omega, by simp only; omega, by simp only; omega, by simp only; omega, by simp, fun k h1 h2 => by simp only at h2; omega, by simp⟩ ?_ (.fgt (by repeat (first | exact fgt_nil | refine fgt_top ?_ | refine fgt_same rfl ?_ | refine fgt_same (by simp) ?_)))
  rintro ⟨i, at_, out⟩ ⟨h1, h2, h3, h4, h5, h6, h7⟩
  simp only at h1 h2 h3 h4 h5 h6 h7
  by_cases hlt : i < b.length
  · have e1 := bytes_hd2 (s := b) (i := i) hlt
    have e2 := bytes_hd2 (s := b) (i := i - 1) (by omega)
    have hN : ((i : Int) - 1).toNat = i - 1 := by omega
    have hif : (if i + 1 = b.length then Tok.ro else Tok.ro) = Tok.ro := by split <;> rfl
    obtain ⟨X, hX⟩ : ∃ X, (b.drop at_).take (i + 1 - at_) = X := ⟨_, rfl⟩
    have hXv : List.drop at_ (List.take (i + 1) (bytesAV b)) = bytesAV X := by rw [← hX]; simp [bytesAV, List.drop_take]
    have hXl : i + 1 - at_ = X.length := by rw [← hX, List.length_take, List.length_drop]; omega
    have linL_step := fun a1 a2 a3 a4 a5 => hX ▸ @linL_step b at_ i out a1 a2 a3 a4 a5
    rcases out with _ | ⟨q, qs⟩
    · simp only [List.length_nil, if_true, linesAV, List.map_nil]
      have hh := And.intro e1 (And.intro e2 (And.intro hN (And.intro hif (And.intro hXv hXl))))
      repeat' (first | refine go ?_ | (refine br (fun hc => ?_) (fun hc => ?_) <;> try (exfalso; omega)) | fail)
      · refine againE (i + 1, i + 1, [X]) ⟨by simp only; omega, by simp only; omega, by simp only; omega, by simp only; omega, by (simp only [List.length_cons, List.length_nil, List.length_append]); omega, fun k q1 q2 => by simp only at q1 q2; omega, ?_⟩ (by simp only; omega) (by simp)
        exact linL_step (by omega) (getD_some (by omega) (by show _ = 13; omega)) (getD_some hlt (by show _ = 10; omega)) h6 h7
      · exact againE (i + 1, at_, ([] : List (List UInt8))) ⟨by simp only; omega, by simp only; omega, by simp only; omega, by simp only; omega, by simp only [List.length_cons, List.length_nil] at h5 ⊢; omega, fun k q1 q2 => by
          simp only at q1 q2
          by_cases q3 : k + 1 < i
          · exact h6 k q1 q3
          · omega, h7⟩ (by simp only; omega) (by simp)
      · exact againE (i + 1, at_, ([] : List (List UInt8))) ⟨by simp only; omega, by simp only; omega, by simp only; omega, by simp only; omega, by simp only [List.length_cons, List.length_nil] at h5 ⊢; omega, fun k q1 q2 => by
          simp only at q1 q2
          by_cases q3 : k + 1 < i
          · exact h6 k q1 q3
          · obtain rfl : k = i - 1 := by omega
            exact not_end (.inr (by omega)), h7⟩ (by simp only; omega) (by simp)
      · exact againE (i + 1, at_, ([] : List (List UInt8))) ⟨by simp only; omega, by simp only; omega, by simp only; omega, by simp only; omega, by simp only [List.length_cons, List.length_nil] at h5 ⊢; omega, fun k q1 q2 => by
          simp only at q1 q2
          by_cases q3 : k + 1 < i
          · exact h6 k q1 q3
          · obtain rfl : k = i - 1 := by omega
            exact not_end (.inl (by rw [show i - 1 + 1 = i by omega]; omega)), h7⟩ (by simp only; omega) (by simp)
    · simp only [List.length_cons, Nat.add_eq_zero_iff, Nat.one_ne_zero, and_false, if_false]
      simp only [List.length_cons] at h5
      have hla : (linesAV (q :: qs)).length = qs.length + 1 := by simp [linesAV]
      have hh := And.intro e1 (And.intro e2 (And.intro hN (And.intro hif (And.intro hXv (And.intro hXl hla)))))
      repeat' (first | refine go ?_ | (refine br (fun hc => ?_) (fun hc => ?_) <;> try (exfalso; omega)) | fail)
      · rw [show linesAV (q :: qs) ++ [AV.sl X.length (bytesAV X) Tok.ro] = linesAV (q :: qs ++ [X]) by simp [linesAV]]
        refine againE (i + 1, i + 1, (q :: qs) ++ [X]) ⟨by simp only; omega, by simp only; omega, by simp only; omega, by simp only; omega, by (simp only [List.length_cons, List.length_nil, List.length_append]); omega, fun k q1 q2 => by simp only at q1 q2; omega, ?_⟩ (by simp only; omega) (by simp)
        exact linL_step (by omega) (getD_some (by omega) (by show _ = 13; omega)) (getD_some hlt (by show _ = 10; omega)) h6 h7
      · exact againE (i + 1, at_, (q :: qs)) ⟨by simp only; omega, by simp only; omega, by simp only; omega, by simp only; omega, by simp only [List.length_cons]; omega, fun k q1 q2 => by
          simp only at q1 q2
          by_cases q3 : k + 1 < i
          · exact h6 k q1 q3
          · omega, h7⟩ (by simp only; omega) (by simp)
      · exact againE (i + 1, at_, (q :: qs)) ⟨by simp only; omega, by simp only; omega, by simp only; omega, by simp only; omega, by simp only [List.length_cons]; omega, fun k q1 q2 => by
          simp only at q1 q2
          by_cases q3 : k + 1 < i
          · exact h6 k q1 q3
          · obtain rfl : k = i - 1 := by omega
            exact not_end (.inr (by omega)), h7⟩ (by simp only; omega) (by simp)
      · exact againE (i + 1, at_, (q :: qs)) ⟨by simp only; omega, by simp only; omega, by simp only; omega, by simp only; omega, by simp only [List.length_cons]; omega, fun k q1 q2 => by
          simp only at q1 q2
          by_cases q3 : k + 1 < i
          · exact h6 k q1 q3
          · obtain rfl : k = i - 1 := by omega
            exact not_end (.inl (by rw [show i - 1 + 1 = i by omega]; omega)), h7⟩ (by simp only; omega) (by simp)
  · have hend : linL (b.drop at_) = ([], b.drop at_) := linL_none (crlf_never _ fun j hE => by
      have q1 := hE.1
      have q2 := hE.2
      rw [List.getElem?_drop] at q1 q2
      have q3 := (List.getElem?_eq_some_iff.1 q2).1
      exact h6 (at_ + j) (by omega) (by omega) ⟨q1, by rwa [show at_ + j + 1 = at_ + (j + 1) by omega]⟩)
    rw [hend, List.append_nil] at h7
    unfold linV
    rw [h7]
    have hd : List.drop at_ (List.take b.length (bytesAV b)) = bytesAV (b.drop at_) := by rw [List.take_of_length_le (by rw [bytesAV_len]; exact Nat.le_refl _)]; simp [bytesAV]
    have hdl : (b.drop at_).length = b.length - at_ := List.length_drop
    rw [hdl]
    generalize b.drop at_ = R at *
    have hh := hd
    rcases out with _ | ⟨q, qs⟩
    · simp only [List.length_nil, if_true, linesAV, List.map_nil]
      repeat' (first | refine go ?_ | (refine br (fun hc => ?_) (fun hc => ?_) <;> try (exfalso; omega)) | fail)
      exact .weak (b := .tup [.sl 0 [] .ro, .sl (b.length - at_) (bytesAV R) .ro]) (fun g c h => tupW (ys := [.sl 0 [] .ro, .sl (b.length - at_) (bytesAV R) .ro]) (by rfl) (fun i c h => by match i, h with
        | 0, h => exact sl_ro g _ h
        | 1, h => exact h
        | _ + 2, _ => exact .top _) h) (.now ⟨rfl, rfl⟩)
    · simp only [List.length_cons, Nat.add_eq_zero_iff, Nat.one_ne_zero, and_false, if_false]
      repeat' (first | refine go ?_ | (refine br (fun hc => ?_) (fun hc => ?_) <;> try (exfalso; omega)) | fail)
      exact .weak (b := .tup [.sl (qs.length + 1) (linesAV (q :: qs)) .ro, .sl (b.length - at_) (bytesAV R) .ro]) (fun g c h => tupW (ys := [.sl (qs.length + 1) (linesAV (q :: qs)) .ro, .sl (b.length - at_) (bytesAV R) .ro]) (by rfl) (fun i c h => by match i, h with
        | 0, h => exact sl_ro g _ h
        | 1, h => exact h
        | _ + 2, _ => exact .top _) h) (.junkd ⟨rfl, rfl⟩)
end Go.Ab.Tryz
