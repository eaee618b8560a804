/- Walks: lines with their ends (the document). -/
import Derived.Test.YtadghefkbjacjaaGreatDoorLBncB
import Derived.Test.YtadghefkbjacjaaGreatDoorLBncC
import Derived.Test.YtadghefkbjacjaaGreatDoorLRefB
import Derived.Test.YtadghefkbjacjaaGreatDoorLHeadB
import Derived.Test.YtadghefkbjacjaaGreatDoorLJoinA
section
set_option linter.unusedSimpArgs false
set_option linter.unusedVariables false
set_option maxHeartbeats 8000000
set_option maxRecDepth 10000
namespace Go.Ab.Tryz
open Go Go.Ab Go.Proofs
attribute [local irreducible] W Wl Wop TrA WSeq WLoopS FPost DPost RPost WRound DK onEnd
attribute [local simp] belowL_bytesAV belowL_fldAV belowL_strsM
variable {n0 : Nat} {w0 : World} {gl : Nat → List AV} {H : List AO}

def linesAV (l : List (List UInt8)) : List AV := l.map fun x => .sl x.length (bytesAV x) .ro
theorem belowL_linesAV (n : Nat) (l : List (List UInt8)) : belowL n (linesAV l) = true := by
  induction l with
  | nil => rfl
  | cons x l ih => simp only [linesAV, List.map_cons] at ih ⊢; simp [belowL, AV.within, belowL_bytesAV] at ih ⊢; exact ih
attribute [local simp] belowL_linesAV
theorem bytes_hd2 {s : List UInt8} {i : Nat} (h : i < s.length) : (List.take 1 (List.drop i (bytesAV s))).headD .top = .int .u8 ((s.getD i 0).toNat) := by
  rw [show List.drop i (bytesAV s) = bytesAV (List.drop i s) by simp [bytesAV], List.drop_eq_getElem_cons h]
  show byteAV _ = _
  simp [byteAV, List.getD_eq_getElem?_getD, h]
theorem linesAV_len (l : List (List UInt8)) : (linesAV l).length = l.length := by simp [linesAV]
def linV (b : List UInt8) : AV := .tup [.sl (linL b).1.length (linesAV (linL b).1) .ro, .sl (linL b).2.length (bytesAV (linL b).2) .ro]

theorem getD_some {b : List UInt8} {i : Nat} {c : UInt8} (h : i < b.length) (hc : (b.getD i 0).toNat = c.toNat) : b[i]? = some c := by
  rw [List.getElem?_eq_getElem h]
  congr 1
  have : b.getD i 0 = b[i] := by simp [List.getD_eq_getElem?_getD, h]
  rw [this] at hc
  exact UInt8.toNat_inj.1 hc
theorem not_end {b : List UInt8} {i : Nat} (h : ¬ (b.getD (i + 1) 0).toNat = 10 ∨ ¬ (b.getD i 0).toNat = 13) : ¬ EndAt b i := fun ⟨h1, h2⟩ => by
  rcases h with h | h
  · exact h (by simp [List.getD_eq_getElem?_getD, h2])
  · exact h (by simp [List.getD_eq_getElem?_getD, h1])
theorem ref_lines_e (b : List UInt8) (hb : b.length ≤ 1000000) : AEnter (env n0 w0 gl) 88 [.sl b.length (bytesAV b) .ro] H (fun y H' => y = .ret (linV b) ∧ H' = H) := by
  refine enter (md := fun _ => 0) Tryz.func88 (fun hfit hgl => ?_)
  repeat' (first | refine go ?_ | (refine br (fun hc => ?_) (fun hc => ?_) <;> try (exfalso; omega)) | fail)
  refine loop (fun j : Nat × Nat × List (List UInt8) => (.sl b.length (bytesAV b) .ro :: .top :: .sl 0 [] .full :: .sl 0 [] .full :: .sl j.2.2.length (linesAV j.2.2) (if j.2.2.length = 0 then .full else .at H.length j.2.2.length) :: .int .i64 (j.2.1 : Int) :: .int .i64 (j.1 : Int) :: .top :: .top :: .top :: .top :: .top :: .top :: .top :: .top :: .top :: .top :: .top :: .top :: .top :: .top :: .top :: .top :: .top :: .top :: .top :: .top :: .top :: .top :: .top :: .top :: .top :: .top :: .top :: .top :: .top :: .top :: .top :: .top :: .top :: .top :: .top :: .top :: .top :: .top :: .top :: [])) (fun j => if j.2.2.length = 0 then H else H ++ [.tail 1 j.2.2.length])
    (fun j => 1 ≤ j.1 ∧ j.1 ≤ b.length + 1 ∧ j.2.1 ≤ j.1 ∧ j.2.1 ≤ b.length ∧ j.2.2.length ≤ j.1 ∧ (∀ k, j.2.1 ≤ k → k + 1 < j.1 → ¬ EndAt b k) ∧ linL b = (j.2.2 ++ (linL (b.drop j.2.1)).1, (linL (b.drop j.2.1)).2)) (fun j => b.length + 1 - j.1) (1, 0, [])
    ⟨by simp only; omega, by simp only; omega, by simp only; omega, by simp only; omega, by simp, fun k h1 h2 => by simp only at h2; omega, by simp⟩ ?_ (.fgt (by repeat (first | exact fgt_nil | refine fgt_top ?_ | refine fgt_same rfl ?_ | refine fgt_same (by simp) ?_)))
  rintro ⟨i, at_, out⟩ ⟨h1, h2, h3, h4, h5, h6, h7⟩
  simp only at h1 h2 h3 h4 h5 h6 h7
  by_cases hlt : i < b.length
  · have e1 := bytes_hd2 (s := b) (i := i) hlt
    have e2 := bytes_hd2 (s := b) (i := i - 1) (by omega)
    have hN : ((i : Int) - 1).toNat = i - 1 := by omega
    have hif : (if i + 1 = b.length then Tok.ro else Tok.ro) = Tok.ro := by split <;> rfl
    obtain ⟨X, hX⟩ : ∃ X, (b.drop at_).take (i + 1 - at_) = X := ⟨_, rfl⟩
    have hXv : List.drop at_ (List.take (i + 1) (bytesAV b)) = bytesAV X := by rw [← hX]; simp [bytesAV, List.drop_take]
    have hXl : i + 1 - at_ = X.length := by rw [← hX, List.length_take, List.length_drop]; omega
    have linL_step := fun a1 a2 a3 a4 a5 => hX ▸ @linL_step b at_ i out a1 a2 a3 a4 a5
    rcases out with _ | ⟨q, qs⟩
    · simp only [List.length_nil, if_true, linesAV, List.map_nil]
      have hh := And.intro e1 (And.intro e2 (And.intro hN (And.intro hif (And.intro hXv hXl))))
      repeat' (first | refine go ?_ | (refine br (fun hc => ?_) (fun hc => ?_) <;> try (exfalso; omega)) | fail)
      · refine againE (i + 1, i + 1, [X]) ⟨by simp only; omega, by simp only; omega, by simp only; omega, by simp only; omega, by (simp only [List.length_cons, List.length_nil, List.length_append]); omega, fun k q1 q2 => by simp only at q1 q2; omega, ?_⟩ (by simp only; omega) (by simp)
        exact linL_step (by omega) (getD_some (by omega) (by show _ = 13; omega)) (getD_some hlt (by show _ = 10; omega)) h6 h7
      · exact againE (i + 1, at_, ([] : List (List UInt8))) ⟨by simp only; omega, by simp only; omega, by simp only; omega, by simp only; omega, by simp only [List.length_cons, List.length_nil] at h5 ⊢; omega, fun k q1 q2 => by
          simp only at q1 q2
          by_cases q3 : k + 1 < i
          · exact h6 k q1 q3
          · omega, h7⟩ (by simp only; omega) (by simp)
      · exact againE (i + 1, at_, ([] : List (List UInt8))) ⟨by simp only; omega, by simp only; omega, by simp only; omega, by simp only; omega, by simp only [List.length_cons, List.length_nil] at h5 ⊢; omega, fun k q1 q2 => by
          simp only at q1 q2
          by_cases q3 : k + 1 < i
          · exact h6 k q1 q3
          · obtain rfl : k = i - 1 := by omega
            exact not_end (.inr (by omega)), h7⟩ (by simp only; omega) (by simp)
      · exact againE (i + 1, at_, ([] : List (List UInt8))) ⟨by simp only; omega, by simp only; omega, by simp only; omega, by simp only; omega, by simp only [List.length_cons, List.length_nil] at h5 ⊢; omega, fun k q1 q2 => by
          simp only at q1 q2
          by_cases q3 : k + 1 < i
          · exact h6 k q1 q3
          · obtain rfl : k = i - 1 := by omega
            exact not_end (.inl (by rw [show i - 1 + 1 = i by omega]; omega)), h7⟩ (by simp only; omega) (by simp)
    · simp only [List.length_cons, Nat.add_eq_zero_iff, Nat.one_ne_zero, and_false, if_false]
      simp only [List.length_cons] at h5
      have hla : (linesAV (q :: qs)).length = qs.length + 1 := by simp [linesAV]
      have hh := And.intro e1 (And.intro e2 (And.intro hN (And.intro hif (And.intro hXv (And.intro hXl hla)))))
      repeat' (first | refine go ?_ | (refine br (fun hc => ?_) (fun hc => ?_) <;> try (exfalso; omega)) | fail)
      · rw [show linesAV (q :: qs) ++ [AV.sl X.length (bytesAV X) Tok.ro] = linesAV (q :: qs ++ [X]) by simp [linesAV]]
        refine againE (i + 1, i + 1, (q :: qs) ++ [X]) ⟨by simp only; omega, by simp only; omega, by simp only; omega, by simp only; omega, by (simp only [List.length_cons, List.length_nil, List.length_append]); omega, fun k q1 q2 => by simp only at q1 q2; omega, ?_⟩ (by simp only; omega) (by simp)
        exact linL_step (by omega) (getD_some (by omega) (by show _ = 13; omega)) (getD_some hlt (by show _ = 10; omega)) h6 h7
      · exact againE (i + 1, at_, (q :: qs)) ⟨by simp only; omega, by simp only; omega, by simp only; omega, by simp only; omega, by simp only [List.length_cons]; omega, fun k q1 q2 => by
          simp only at q1 q2
          by_cases q3 : k + 1 < i
          · exact h6 k q1 q3
          · omega, h7⟩ (by simp only; omega) (by simp)
      · exact againE (i + 1, at_, (q :: qs)) ⟨by simp only; omega, by simp only; omega, by simp only; omega, by simp only; omega, by simp only [List.length_cons]; omega, fun k q1 q2 => by
          simp only at q1 q2
          by_cases q3 : k + 1 < i
          · exact h6 k q1 q3
          · obtain rfl : k = i - 1 := by omega
            exact not_end (.inr (by omega)), h7⟩ (by simp only; omega) (by simp)
      · exact againE (i + 1, at_, (q :: qs)) ⟨by simp only; omega, by simp only; omega, by simp only; omega, by simp only; omega, by simp only [List.length_cons]; omega, fun k q1 q2 => by
          simp only at q1 q2
          by_cases q3 : k + 1 < i
          · exact h6 k q1 q3
          · obtain rfl : k = i - 1 := by omega
            exact not_end (.inl (by rw [show i - 1 + 1 = i by omega]; omega)), h7⟩ (by simp only; omega) (by simp)
  · have hend : linL (b.drop at_) = ([], b.drop at_) := linL_none (crlf_never _ fun j hE => by
      have q1 := hE.1
      have q2 := hE.2
      rw [List.getElem?_drop] at q1 q2
      have q3 := (List.getElem?_eq_some_iff.1 q2).1
      exact h6 (at_ + j) (by omega) (by omega) ⟨q1, by rwa [show at_ + j + 1 = at_ + (j + 1) by omega]⟩)
    rw [hend, List.append_nil] at h7
    unfold linV
    rw [h7]
    have hd : List.drop at_ (List.take b.length (bytesAV b)) = bytesAV (b.drop at_) := by rw [List.take_of_length_le (by rw [bytesAV_len]; exact Nat.le_refl _)]; simp [bytesAV]
    have hdl : (b.drop at_).length = b.length - at_ := List.length_drop
    rw [hdl]
    generalize b.drop at_ = R at *
    have hh := hd
    rcases out with _ | ⟨q, qs⟩
    · simp only [List.length_nil, if_true, linesAV, List.map_nil]
      repeat' (first | refine go ?_ | (refine br (fun hc => ?_) (fun hc => ?_) <;> try (exfalso; omega)) | fail)
      exact .weak (b := .tup [.sl 0 [] .ro, .sl (b.length - at_) (bytesAV R) .ro]) (fun g c h => tupW (ys := [.sl 0 [] .ro, .sl (b.length - at_) (bytesAV R) .ro]) (by rfl) (fun i c h => by match i, h with
        | 0, h => exact sl_ro g _ h
        | 1, h => exact h
        | _ + 2, _ => exact .top _) h) (.now ⟨rfl, rfl⟩)
    · simp only [List.length_cons, Nat.add_eq_zero_iff, Nat.one_ne_zero, and_false, if_false]
      repeat' (first | refine go ?_ | (refine br (fun hc => ?_) (fun hc => ?_) <;> try (exfalso; omega)) | fail)
      exact .weak (b := .tup [.sl (qs.length + 1) (linesAV (q :: qs)) .ro, .sl (b.length - at_) (bytesAV R) .ro]) (fun g c h => tupW (ys := [.sl (qs.length + 1) (linesAV (q :: qs)) .ro, .sl (b.length - at_) (bytesAV R) .ro]) (by rfl) (fun i c h => by match i, h with
        | 0, h => exact sl_ro g _ h
        | 1, h => exact h
        | _ + 2, _ => exact .top _) h) (.junkd ⟨rfl, rfl⟩)
end Go.Ab.Tryz

end

section
set_option linter.unusedSimpArgs false
set_option linter.unusedVariables false
set_option maxHeartbeats 2000000
set_option maxRecDepth 4000
namespace Go.Ab.Tryz
open Go Go.Ab Go.Proofs
attribute [local irreducible] W Wl Wop TrA WSeq WLoopS FPost DPost RPost WRound DK onEnd
variable {n0 : Nat} {w0 : World} {gl : Nat → List AV} {H : List AO}
attribute [local simp] belowL_bytesAV

instance ref_show_t (l : Flds) : Ctr (env n0 w0 gl) 162 [.sl l.length (fldAV l) .ro] H (l.length ≤ 9223372036854775807 ∧ ∀ i, i < l.length → (l.getD i ([], [])).1.length + (l.getD i ([], [])).2.length ≤ 1000000) (showV (showR l)) H := .of fun ⟨hl, hb⟩ => by
  have hfl := fldAV_len l
  refine enter (md := fun _ => 0) Tryz.func162 (fun hfit hgl => ?_)
  have hh := hfl
  repeat' (first | refine go ?_ | (refine br (fun hc => ?_) (fun hc => ?_) <;> try (exfalso; omega)) | fail)
  refine loop0 (fun i : Nat => (.sl l.length (fldAV l) .ro :: .top :: .top :: .top :: .top :: .top :: .top :: .top :: .top :: .top :: .top :: .top :: .sl l.length (fldAV l) .ro :: .int .i64 l.length :: .int .i64 (i : Int) :: .top :: .top :: .top :: .top :: .top :: .top :: .top :: .top :: .top :: .top :: .top :: .top :: .top :: .top :: .top :: .top :: .top :: .top :: .top :: .top :: .top :: .top :: .top :: .top :: .top :: .top :: .top :: .top :: .top :: .top :: .top :: .top :: .top :: .top :: .top :: .top :: .top :: .top :: .top :: .top :: .top :: .top :: .top :: .top :: .top :: .top :: .top :: .top :: .top :: .top :: .top :: .top :: .top :: .top :: .top :: [])) (fun i => i ≤ l.length ∧ ∀ k, k < i → FldOk (l.getD k ([], []))) (fun i => l.length - i) 0 ⟨Nat.zero_le _, fun k h => absurd h (Nat.not_lt_zero _)⟩ ?_
  rintro i ⟨hi, hall⟩
  by_cases hlt : i < l.length
  · have hat := fldAV_at hlt
    have hbi := hb i hlt
    have hno : ¬ FldOk (l.getD i ([], [])) → showR l = .inr 80 := fun h => by
      unfold showR
      rw [tf_false (fun hh => h (hh i hlt))]; rfl
    generalize hf : l.getD i ([], []) = f at *
    have hyes : FldOk f → ∀ k, k < i + 1 → FldOk (l.getD k ([], [])) := fun h k hk => by
      rcases Nat.lt_succ_iff_lt_or_eq.1 hk with h1 | h1
      · exact hall k h1
      · subst h1; rw [hf]; exact h
    by_cases hN : NameOk f.1
    · by_cases hP : PlainOk f.2
      · have hh := And.intro hfl (And.intro hat (And.intro (tf_true hN) (tf_true hP)))
        repeat' (first | refine go ?_ | (refine br (fun hc => ?_) (fun hc => ?_) <;> try (exfalso; omega)) | fail)
        exact again (i + 1) ⟨by omega, hyes ⟨hN, hP⟩⟩
      · have hh := And.intro hfl (And.intro hat (And.intro (tf_true hN) (tf_false hP)))
        repeat' (first | refine go ?_ | (refine br (fun hc => ?_) (fun hc => ?_) <;> try (exfalso; omega)) | fail)
        rw [hno (fun h => hP h.2)]
        exact .junkd ⟨rfl, rfl⟩
    · have hh := And.intro hfl (And.intro hat (tf_false hN))
      repeat' (first | refine go ?_ | (refine br (fun hc => ?_) (fun hc => ?_) <;> try (exfalso; omega)) | fail)
      rw [hno (fun h => hN h.1)]
      exact .junkd ⟨rfl, rfl⟩
  · obtain rfl : i = l.length := by omega
    have hR : showR l = if l.length ≤ 1000 ∧ (showL l).length ≤ 99998 then .inl (showL l ++ [13, 10]) else .inr 2 := by unfold showR; rw [tf_true hall]; rfl
    repeat' (first | refine go ?_ | (refine br (fun hc => ?_) (fun hc => ?_) <;> try (exfalso; omega)) | fail)
    · rw [hR, if_neg (by omega)]
      exact .now ⟨rfl, rfl⟩
    · refine loop0 (fun i : Nat => (.sl l.length (fldAV l) .ro :: .top :: .top :: .top :: .top :: .top :: .int .i64 (2 + (showL (l.take i)).length : Nat) :: .top :: .top :: .top :: .top :: .top :: .top :: .top :: .top :: .top :: .top :: .top :: .top :: .top :: .top :: .top :: .top :: .top :: .top :: .top :: .top :: .top :: .top :: .top :: .top :: .top :: .sl l.length (fldAV l) .ro :: .int .i64 l.length :: .int .i64 (i : Int) :: .top :: .top :: .top :: .top :: .top :: .top :: .top :: .top :: .top :: .top :: .top :: .top :: .top :: .top :: .top :: .top :: .top :: .top :: .top :: .top :: .top :: .top :: .top :: .top :: .top :: .top :: .top :: .top :: .top :: .top :: .top :: .top :: .top :: .top :: .top :: [])) (fun i => i ≤ l.length ∧ (showL (l.take i)).length ≤ 99998) (fun i => l.length - i) 0 ⟨Nat.zero_le _, by simp [showL]⟩ ?_ (.fgt (by repeat (first | exact fgt_nil | refine fgt_top ?_ | refine fgt_same rfl ?_ | refine fgt_same (by simp [showL]) ?_)))
      rintro i ⟨hi, hle⟩
      by_cases hlt : i < l.length
      · have hat := fldAV_at hlt
        have hbi := hb i hlt
        have hst := showL_take hlt
        have hmo := showL_mono l (i + 1)
        generalize hf : l.getD i ([], []) = f at *
        have hsl : (showL (l.take (i + 1))).length = (showL (l.take i)).length + (f.1.length + (f.2.length + 4)) := by rw [hst]; simp [showF]
        have hh := And.intro hfl hat
        repeat' (first | refine go ?_ | (refine br (fun hc => ?_) (fun hc => ?_) <;> try (exfalso; omega)) | fail)
        · rw [hR, if_neg (by omega)]
          exact .junkd ⟨rfl, rfl⟩
        · refine again (i + 1) ⟨by omega, by omega⟩ (by omega) (.fgt_drop (by rw [hsl]; repeat (first | exact fgt_nil | refine fgt_top ?_ | refine fgt_same rfl ?_ | refine fgt_same (by congr 1; omega) ?_)) hgl (Nat.le_refl _) hfit (by simp [belowL, AV.within]) rfl)
      · obtain rfl : i = l.length := by omega
        rw [List.take_length] at hle ⊢
        rw [hR, if_pos ⟨by omega, by omega⟩]
        clear hR
        refine gos ?_
        refine wseq_normal ?_
        refine gos ?_
        refine wseq_normal ?_
        refine gos ?_
        refine wseq_shift (Shift.vec 1 9 rfl) ?_
        simp only [List.set_cons_succ, List.set_cons_zero]
        repeat' (first | refine go ?_ | (refine br (fun hc => ?_) (fun hc => ?_) <;> try (exfalso; omega)) | fail)
        refine loop (fun i : Nat => (.sl l.length (fldAV l) .ro :: .top :: .top :: .top :: .top :: .top :: .top :: .top :: .top :: .vsl H.length (showL (l.take i)).length :: .top :: .top :: .top :: .top :: .top :: .top :: .top :: .top :: .top :: .top :: .top :: .top :: .top :: .top :: .top :: .top :: .top :: .top :: .top :: .top :: .top :: .top :: .top :: .top :: .top :: .top :: .top :: .top :: .top :: .top :: .top :: .top :: .top :: .top :: .top :: .top :: .top :: .top :: .top :: .top :: .top :: .sl l.length (fldAV l) .ro :: .int .i64 l.length :: .int .i64 (i : Int) :: .top :: .top :: .top :: .top :: .top :: .top :: .top :: .top :: .top :: .top :: .top :: .top :: .top :: .top :: .top :: .top :: [])) (fun i => H ++ [.vec 1 (showL (l.take i)).length (bytesAV (showL (l.take i)))]) (fun i => i ≤ l.length) (fun i => l.length - i) 0 (Nat.zero_le _) ?_
        intro i hi
        by_cases hlt : i < l.length
        · have hat := fldAV_at hlt
          have hbi := hb i hlt
          have hst := showL_take hlt
          have hmo := showL_mono l (i + 1)
          generalize hf : l.getD i ([], []) = f at *
          have hsl : (showL (l.take (i + 1))).length = (showL (l.take i)).length + (f.1.length + (f.2.length + 4)) := by rw [hst]; simp [showF]
          have hsb : bytesAV (showL (l.take (i + 1))) = bytesAV (showL (l.take i)) ++ bytesAV (f.1 ++ 58 :: 32 :: (f.2 ++ [13, 10])) := by rw [hst, bytesAV_append]; simp [showF]
          have hh := And.intro hfl hat
          repeat' (first | refine go ?_ | (refine br (fun hc => ?_) (fun hc => ?_) <;> try (exfalso; omega)) | fail)
          rw [show ∀ a b : AO, H ++ [a, b] = (H ++ [a]) ++ [b] from fun _ _ => by simp, ← hsl, ← hsb]
          exact again (i + 1) (by omega)
        · obtain rfl : i = l.length := by omega
          rw [List.take_length]
          refine gos ?_
          refine wseq_normal ?_
          refine gos ?_
          refine wseq_normal ?_
          refine gos ?_
          refine wseq_shift (Shift.know 2 (sz := 1) rfl (by rw [List.getElem?_append_right (Nat.le_refl _), Nat.sub_self]; rfl)) ?_
          simp only [List.set_cons_succ, List.set_cons_zero, setE0]
          repeat' (first | refine go ?_ | (refine br (fun hc => ?_) (fun hc => ?_) <;> try (exfalso; omega)) | fail)
          rw [show bytesAV (showL l) ++ [AV.int .u8 13, AV.int .u8 10] = bytesAV (showL l ++ [13, 10]) by simp [bytesAV, byteAV]]
          refine .junkd ⟨?_, rfl⟩
          simp [showV]

end Go.Ab.Tryz

end

section
set_option linter.unusedSimpArgs false
set_option linter.unusedVariables false
set_option maxHeartbeats 4000000
set_option maxRecDepth 4000
namespace Go.Ab.Tryz
open Go Go.Ab Go.Proofs
attribute [local irreducible] W Wl Wop TrA WSeq WLoopS FPost DPost RPost WRound DK onEnd
variable {n0 : Nat} {w0 : World} {gl : Nat → List AV} {H : List AO}
attribute [local simp] belowL_bytesAV

theorem headR_go {b : List UInt8} {pre : List (List UInt8)} {j : Flds × Nat} (h1 : linesOf b = pre) (h2 : foldR hstep ([], 0) pre = .go j) : headR b = some j := by
  unfold headR; rw [h1, h2]
theorem headR_stop {b : List UInt8} {pre post : List (List UInt8)} {x : List UInt8} {j o : Flds × Nat} (h1 : linesOf b = pre ++ x :: post) (h2 : foldR hstep ([], 0) pre = .go j) (h3 : hstep j x = .stop o) : headR b = some o := by
  unfold headR; rw [h1, foldR_stop h2 h3]
theorem headR_die {b : List UInt8} {pre post : List (List UInt8)} {x : List UInt8} {j : Flds × Nat} {u : Nat} (h1 : linesOf b = pre ++ x :: post) (h2 : foldR hstep ([], 0) pre = .go j) (h3 : hstep j x = .die u) : headR b = none := by
  unfold headR; rw [h1, foldR_die h2 h3]
theorem cut_index {s : List UInt8} {c : UInt8} : (cutAt c s = none ∧ Lib.indexByte s c = -1) ∨ ∃ k : Nat, k < s.length ∧ Lib.indexByte s c = (k : Int) ∧ cutAt c s = some (s.take k, s.drop (k + 1)) := by
  rcases cutAt_idx c s with ⟨h1, h2⟩ | h
  · exact .inl ⟨h2, h1⟩
  · exact .inr h

instance ref_parse_t (b : List UInt8) : Ctr (env n0 w0 gl) 87 [.sl b.length (bytesAV b) .ro] H (b.length < 4294967281) (parseV (headP b)) H := .of fun hb => by
  refine enter (md := fun _ => 0) Tryz.func87 (fun hfit hgl => ?_)
  refine gos ?_
  refine wseq_normal ?_
  refine gos ?_
  refine wseq_shift (Shift.vec 2 5 rfl) ?_
  simp only [List.set_cons_succ, List.set_cons_zero]
  repeat' (first | refine go ?_ | (refine br (fun hc => ?_) (fun hc => ?_) <;> try (exfalso; omega)) | fail)
  refine loop (fun j : Flds × Nat => (.sl b.length (bytesAV b) .ro :: .top :: .top :: .top :: .top :: .vsl H.length j.1.length :: .int .i64 j.2 :: .top :: .top :: .top :: .top :: .top :: .top :: .top :: .top :: .top :: .top :: .top :: .top :: .top :: .top :: .top :: .top :: .top :: .top :: .top :: .top :: .top :: .top :: .top :: .top :: .top :: .top :: .top :: .top :: .top :: .top :: .top :: .top :: .top :: .top :: .top :: .top :: .top :: .top :: .top :: .top :: .top :: .top :: .top :: .top :: .top :: .top :: .top :: .top :: .top :: .top :: .top :: .top :: .top :: .top :: .top :: .top :: .top :: .top :: .top :: .top :: .top :: .top :: .top :: .top :: .top :: .top :: .top :: .top :: .top :: .top :: .top :: .top :: .top :: .top :: .top :: .top :: .top :: .top :: .top :: .top :: .top :: .top :: .top :: .top :: .top :: .top :: .top :: .top :: .top :: .top :: .top :: .top :: .top :: .top :: .top :: [])) (fun j => H ++ [.vec 2 j.1.length (fldAV j.1)]) (fun j => j.2 ≤ b.length ∧ ∃ pre, linesOf b = pre ++ linesOf (b.drop j.2) ∧ foldR hstep ([], 0) pre = .go j) (fun j => b.length - j.2) ([], 0) ⟨Nat.zero_le _, [], rfl, rfl⟩ ?_
  rintro ⟨l, u⟩ ⟨hu, pre, h1, h2⟩
  simp only at hu h1 h2 ⊢
  have hfl := fldAV_len l
  have hiv := hstep_inv pre _ _ (by simp) h2
  simp only at hiv
  have hus := hstep_used pre _ _ h2
  have hll : l.length ≤ b.length := by
    have hcount := linesOf_count b
    rw [h1, List.length_append] at hcount
    have := hus.2
    simp only [List.length_nil, Nat.zero_add] at this
    omega
  have hbd : (bytesAV b).drop u = bytesAV (b.drop u) := bytesAV_drop b u
  have hbl : (b.drop u).length = b.length - u := List.length_drop
  have htk : (bytesAV b).take b.length = bytesAV b := List.take_of_length_le (by rw [bytesAV_len]; omega)
  have hline : ∀ H, Ctr (env n0 w0 gl) 157 [.sl (b.length - u) (bytesAV (b.drop u)) .ro] H True (lineV (b.drop u)) H := fun H => ⟨fun _ => by have := (line_t (n0 := n0) (w0 := w0) (gl := gl) (H := H) (b.drop u)).call (by omega); rwa [hbl] at this⟩
  by_cases hlt : u < b.length
  · rcases hc : crlfAt (b.drop u) with _ | ⟨s, rest⟩
    · have hv : lineV (b.drop u) = .tup [.str [], .bool false] := by simp only [lineV, hc]
      rw [linesOf_none hc, List.append_nil] at h1
      have hR := headR_go h1 h2
      have hh := And.intro hv (And.intro hbd htk)
      obtain ⟨hlb, hub, hiv2⟩ := headR_inv hR
      have hP : headP b = if l.length ≤ 1000 ∧ u ≤ 100000 then (List.map trimF l, u, 0) else ([], 0, 2) := by unfold headP; rw [hR]
      by_cases hlu : l.length ≤ 1000 ∧ u ≤ 100000
      · rw [hP, if_pos hlu]
        clear hP
        repeat' (first | refine go ?_ | (refine br (fun hc => ?_) (fun hc => ?_) <;> try (exfalso; omega)) | fail)
        refine loop (fun i : Nat => (.top :: .top :: .top :: .top :: .top :: .vsl H.length l.length :: .int .i64 (u : Nat) :: .top :: .top :: .top :: .top :: .top :: .top :: .top :: .top :: .top :: .top :: .top :: .top :: .top :: .top :: .top :: .top :: .top :: .top :: .top :: .top :: .top :: .top :: .top :: .top :: .top :: .top :: .top :: .top :: .top :: .top :: .top :: .top :: .top :: .top :: .top :: .top :: .top :: .top :: .top :: .top :: .top :: .top :: .top :: .top :: .top :: .top :: .top :: .top :: .top :: .top :: .top :: .top :: .top :: .top :: .top :: .top :: .top :: .top :: .top :: .top :: .top :: .top :: .top :: .top :: .top :: .top :: .top :: .top :: .top :: .top :: .top :: .top :: .top :: .top :: .top :: .top :: .top :: .top :: .int .i64 l.length :: .int .i64 (i : Int) :: .top :: .top :: .top :: .top :: .top :: .top :: .top :: .top :: .top :: .top :: .top :: .top :: .top :: .top :: .top :: [])) (fun i => H ++ [.vec 2 l.length (fldAV (trimTo l i))]) (fun i => i ≤ l.length) (fun i => l.length - i) 0 (Nat.zero_le _) ?_
        intro i hi
        have hfl := fldAV_len (trimTo l i)
        rw [trimTo_len] at hfl
        by_cases hlt : i < l.length
        · have hbd := fldAV_body (l := trimTo l i) (i := i) (by rw [trimTo_len]; exact hlt)
          rw [trimTo_get hlt] at hbd
          have hbl := hiv2 (l.getD i ([], [])) (by rw [List.getD_eq_getElem?_getD, List.getElem?_eq_getElem hlt]; exact List.getElem_mem _)
          have hh := And.intro hbd hfl
          repeat' (first | refine go ?_ | (refine br (fun hc => ?_) (fun hc => ?_) <;> try (exfalso; omega)) | fail)
          refine againE (i + 1) (by omega) (by omega) ?_
          have e := fldAV_setBody (l := trimTo l i) (i := i) (v := Lib.trimS (l.getD i ([], [])).2 [32, 9]) (by rw [trimTo_len]; exact hlt)
          rw [trimTo_get hlt] at e
          have e2 := trimTo_succ hlt
          unfold trimF at e2
          rw [e2] at e
          rw [← e]
          simp [setRange]
        · obtain rfl : i = l.length := by omega
          have e : trimTo l l.length = List.map trimF l := by simp [trimTo]
          rw [e]
          refine gos ?_
          refine wseq_normal ?_
          refine gos ?_
          refine wseq_normal ?_
          refine gos ?_
          refine wseq_shift (Shift.know 2 (sz := 2) rfl (by rw [List.getElem?_append_right (Nat.le_refl _), Nat.sub_self]; rfl)) ?_
          simp only [List.set_cons_succ, List.set_cons_zero, setE0]
          repeat' (first | refine go ?_ | (refine br (fun hc => ?_) (fun hc => ?_) <;> try (exfalso; omega)) | fail)
          refine .junkd ⟨?_, rfl⟩
          simp [parseV, tokP]
      · rw [hP, if_neg hlu]
        clear hP
        repeat' (first | refine go ?_ | (refine br (fun hc => ?_) (fun hc => ?_) <;> try (exfalso; omega)) | fail)
        all_goals exact .junkd ⟨rfl, rfl⟩
    · have hv : lineV (b.drop u) = .tup [.str s, .bool true] := by simp only [lineV, hc]
      have hcl := crlfAt_len hc
      have hrest : rest = b.drop (u + (s.length + 2)) := by
        rcases crlfAt_idx (b.drop u) with ⟨_, h⟩ | ⟨k, hk, _, h⟩
        · rw [h] at hc; simp at hc
        · rw [h] at hc
          simp only [Option.some.injEq, Prod.mk.injEq] at hc
          obtain ⟨rfl, rfl⟩ := hc
          rw [List.drop_drop, List.length_take, Nat.min_eq_left (by omega)]
      rw [linesOf_some hc, hrest] at h1
      rw [hbl] at hcl
      by_cases h0 : s.length = 0
      · have hst : hstep (l, u) s = .stop (l, u + 2) := by unfold hstep; rw [if_pos h0]
        have hR := headR_stop h1 h2 hst
        have hh := And.intro hv (And.intro hbd htk)
        obtain ⟨hlb, hub, hiv2⟩ := headR_inv hR
        have hP : headP b = if l.length ≤ 1000 ∧ (u + 2) ≤ 100000 then (List.map trimF l, (u + 2), 0) else ([], 0, 2) := by unfold headP; rw [hR]
        by_cases hlu : l.length ≤ 1000 ∧ (u + 2) ≤ 100000
        · rw [hP, if_pos hlu]
          clear hP
          repeat' (first | refine go ?_ | (refine br (fun hc => ?_) (fun hc => ?_) <;> try (exfalso; omega)) | fail)
          refine loop (fun i : Nat => (.top :: .top :: .top :: .top :: .top :: .vsl H.length l.length :: .int .i64 ((u + 2) : Nat) :: .top :: .top :: .top :: .top :: .top :: .top :: .top :: .top :: .top :: .top :: .top :: .top :: .top :: .top :: .top :: .top :: .top :: .top :: .top :: .top :: .top :: .top :: .top :: .top :: .top :: .top :: .top :: .top :: .top :: .top :: .top :: .top :: .top :: .top :: .top :: .top :: .top :: .top :: .top :: .top :: .top :: .top :: .top :: .top :: .top :: .top :: .top :: .top :: .top :: .top :: .top :: .top :: .top :: .top :: .top :: .top :: .top :: .top :: .top :: .top :: .top :: .top :: .top :: .top :: .top :: .top :: .top :: .top :: .top :: .top :: .top :: .top :: .top :: .top :: .top :: .top :: .top :: .top :: .int .i64 l.length :: .int .i64 (i : Int) :: .top :: .top :: .top :: .top :: .top :: .top :: .top :: .top :: .top :: .top :: .top :: .top :: .top :: .top :: .top :: [])) (fun i => H ++ [.vec 2 l.length (fldAV (trimTo l i))]) (fun i => i ≤ l.length) (fun i => l.length - i) 0 (Nat.zero_le _) ?_
          intro i hi
          have hfl := fldAV_len (trimTo l i)
          rw [trimTo_len] at hfl
          by_cases hlt : i < l.length
          · have hbd := fldAV_body (l := trimTo l i) (i := i) (by rw [trimTo_len]; exact hlt)
            rw [trimTo_get hlt] at hbd
            have hbl := hiv2 (l.getD i ([], [])) (by rw [List.getD_eq_getElem?_getD, List.getElem?_eq_getElem hlt]; exact List.getElem_mem _)
            have hh := And.intro hbd hfl
            repeat' (first | refine go ?_ | (refine br (fun hc => ?_) (fun hc => ?_) <;> try (exfalso; omega)) | fail)
            refine againE (i + 1) (by omega) (by omega) ?_
            have e := fldAV_setBody (l := trimTo l i) (i := i) (v := Lib.trimS (l.getD i ([], [])).2 [32, 9]) (by rw [trimTo_len]; exact hlt)
            rw [trimTo_get hlt] at e
            have e2 := trimTo_succ hlt
            unfold trimF at e2
            rw [e2] at e
            rw [← e]
            simp [setRange]
          · obtain rfl : i = l.length := by omega
            have e : trimTo l l.length = List.map trimF l := by simp [trimTo]
            rw [e]
            refine gos ?_
            refine wseq_normal ?_
            refine gos ?_
            refine wseq_normal ?_
            refine gos ?_
            refine wseq_shift (Shift.know 2 (sz := 2) rfl (by rw [List.getElem?_append_right (Nat.le_refl _), Nat.sub_self]; rfl)) ?_
            simp only [List.set_cons_succ, List.set_cons_zero, setE0]
            repeat' (first | refine go ?_ | (refine br (fun hc => ?_) (fun hc => ?_) <;> try (exfalso; omega)) | fail)
            refine .junkd ⟨?_, rfl⟩
            simp [parseV, tokP]
        · rw [hP, if_neg hlu]
          clear hP
          repeat' (first | refine go ?_ | (refine br (fun hc => ?_) (fun hc => ?_) <;> try (exfalso; omega)) | fail)
          all_goals exact .junkd ⟨rfl, rfl⟩
      · by_cases hbk : (s.getD 0 0).toNat = 32 ∨ (s.getD 0 0).toNat = 9
        · by_cases hq : l.length = 0
          · have hst : hstep (l, u) s = .die u := by unfold hstep; rw [if_neg h0, if_pos hbk, if_pos hq]
            have hR := headR_die h1 h2 hst
            have hP : headP b = ([], 0, 80) := by unfold headP; rw [hR]
            rw [hP]
            have hh := And.intro hv (And.intro hbd (And.intro htk (tf_true (p := blankB (s.getD 0 0)) hbk)))
            repeat' (first | refine go ?_ | (refine br (fun hc => ?_) (fun hc => ?_) <;> try (exfalso; omega)) | fail)
            exact .junkd ⟨rfl, rfl⟩
          · have hst : hstep (l, u) s = .go (addLast l s, u + (s.length + 2)) := by unfold hstep; rw [if_neg h0, if_pos hbk, if_neg hq]
            have hla := fldAV_last (l := l) (by omega)
            have hh := And.intro hv (And.intro hbd (And.intro htk (And.intro (tf_true (p := blankB (s.getD 0 0)) hbk) (And.intro hla hfl))))
            have hlb := hiv (l.getD (l.length - 1) ([], [])) (by rw [List.getD_eq_getElem?_getD, List.getElem?_eq_getElem (by omega)]; exact List.getElem_mem _)
            repeat' (first | refine go ?_ | (refine br (fun hc => ?_) (fun hc => ?_) <;> try (exfalso; omega)) | fail)
            have e := setRange_last (l := l) (s := s) (by omega) rfl
            simp only [setRange, List.length_cons, List.length_nil, Nat.zero_add, Nat.add_assoc, Nat.reduceAdd, List.append_assoc, List.cons_append, List.nil_append] at e
            have e2 : (addLast l s).length = l.length := by simp [addLast]; omega
            refine againE (addLast l s, u + (s.length + 2)) ⟨by simp only; omega, pre ++ [s], by rw [h1]; simp, foldR_go h2 hst⟩ (by simp only; omega) ?_ (by simp only [e2]; repeat (first | exact fgt_nil | refine fgt_top ?_ | refine fgt_same rfl ?_ | refine fgt_same (by simp) ?_ | refine fgt_same (by congr 1; omega) ?_))
            simp [e2]
            simpa using e
        · rcases cut_index (s := s) (c := 58) with ⟨hcu, hix⟩ | ⟨k, hk, hix, hcu⟩
          · have hst : hstep (l, u) s = .stop (l, u) := by unfold hstep; rw [if_neg h0, if_neg hbk, hcu]
            have hR := headR_stop h1 h2 hst
            have hh := And.intro hv (And.intro hbd (And.intro htk (And.intro (tf_false (p := blankB (s.getD 0 0)) hbk) hix)))
            obtain ⟨hlb, hub, hiv2⟩ := headR_inv hR
            have hP : headP b = if l.length ≤ 1000 ∧ u ≤ 100000 then (List.map trimF l, u, 0) else ([], 0, 2) := by unfold headP; rw [hR]
            by_cases hlu : l.length ≤ 1000 ∧ u ≤ 100000
            · rw [hP, if_pos hlu]
              clear hP
              repeat' (first | refine go ?_ | (refine br (fun hc => ?_) (fun hc => ?_) <;> try (exfalso; omega)) | fail)
              refine loop (fun i : Nat => (.top :: .top :: .top :: .top :: .top :: .vsl H.length l.length :: .int .i64 (u : Nat) :: .top :: .top :: .top :: .top :: .top :: .top :: .top :: .top :: .top :: .top :: .top :: .top :: .top :: .top :: .top :: .top :: .top :: .top :: .top :: .top :: .top :: .top :: .top :: .top :: .top :: .top :: .top :: .top :: .top :: .top :: .top :: .top :: .top :: .top :: .top :: .top :: .top :: .top :: .top :: .top :: .top :: .top :: .top :: .top :: .top :: .top :: .top :: .top :: .top :: .top :: .top :: .top :: .top :: .top :: .top :: .top :: .top :: .top :: .top :: .top :: .top :: .top :: .top :: .top :: .top :: .top :: .top :: .top :: .top :: .top :: .top :: .top :: .top :: .top :: .top :: .top :: .top :: .top :: .int .i64 l.length :: .int .i64 (i : Int) :: .top :: .top :: .top :: .top :: .top :: .top :: .top :: .top :: .top :: .top :: .top :: .top :: .top :: .top :: .top :: [])) (fun i => H ++ [.vec 2 l.length (fldAV (trimTo l i))]) (fun i => i ≤ l.length) (fun i => l.length - i) 0 (Nat.zero_le _) ?_
              intro i hi
              have hfl := fldAV_len (trimTo l i)
              rw [trimTo_len] at hfl
              by_cases hlt : i < l.length
              · have hbd := fldAV_body (l := trimTo l i) (i := i) (by rw [trimTo_len]; exact hlt)
                rw [trimTo_get hlt] at hbd
                have hbl := hiv2 (l.getD i ([], [])) (by rw [List.getD_eq_getElem?_getD, List.getElem?_eq_getElem hlt]; exact List.getElem_mem _)
                have hh := And.intro hbd hfl
                repeat' (first | refine go ?_ | (refine br (fun hc => ?_) (fun hc => ?_) <;> try (exfalso; omega)) | fail)
                refine againE (i + 1) (by omega) (by omega) ?_
                have e := fldAV_setBody (l := trimTo l i) (i := i) (v := Lib.trimS (l.getD i ([], [])).2 [32, 9]) (by rw [trimTo_len]; exact hlt)
                rw [trimTo_get hlt] at e
                have e2 := trimTo_succ hlt
                unfold trimF at e2
                rw [e2] at e
                rw [← e]
                simp [setRange]
              · obtain rfl : i = l.length := by omega
                have e : trimTo l l.length = List.map trimF l := by simp [trimTo]
                rw [e]
                refine gos ?_
                refine wseq_normal ?_
                refine gos ?_
                refine wseq_normal ?_
                refine gos ?_
                refine wseq_shift (Shift.know 2 (sz := 2) rfl (by rw [List.getElem?_append_right (Nat.le_refl _), Nat.sub_self]; rfl)) ?_
                simp only [List.set_cons_succ, List.set_cons_zero, setE0]
                repeat' (first | refine go ?_ | (refine br (fun hc => ?_) (fun hc => ?_) <;> try (exfalso; omega)) | fail)
                refine .junkd ⟨?_, rfl⟩
                simp [parseV, tokP]
            · rw [hP, if_neg hlu]
              clear hP
              repeat' (first | refine go ?_ | (refine br (fun hc => ?_) (fun hc => ?_) <;> try (exfalso; omega)) | fail)
              all_goals exact .junkd ⟨rfl, rfl⟩
          · by_cases hN : NameOk (s.take k)
            · have hst : hstep (l, u) s = .go (l ++ [(s.take k, s.drop (k + 1))], u + (s.length + 2)) := by unfold hstep; rw [if_neg h0, if_neg hbk, hcu]; simp only [tf_true hN]; rfl
              have hh := And.intro hv (And.intro hbd (And.intro htk (And.intro (tf_false (p := blankB (s.getD 0 0)) hbk) (And.intro hix (tf_true hN)))))
              repeat' (first | refine go ?_ | (refine br (fun hc => ?_) (fun hc => ?_) <;> try (exfalso; omega)) | fail)
              refine againE (l ++ [(s.take k, s.drop (k + 1))], u + (s.length + 2)) ⟨by simp only; omega, pre ++ [s], by rw [h1]; simp, foldR_go h2 hst⟩ (by simp only; omega) ?_ (by repeat (first | exact fgt_nil | refine fgt_top ?_ | refine fgt_same rfl ?_ | refine fgt_same (by simp) ?_ | refine fgt_same (by congr 1; omega) ?_))
              simp [fldAV, show ((k : Int) + 1).toNat = k + 1 by omega]
            · have hst : hstep (l, u) s = .stop (l, u) := by unfold hstep; rw [if_neg h0, if_neg hbk, hcu]; simp only [tf_false hN]; rfl
              have hR := headR_stop h1 h2 hst
              have hh := And.intro hv (And.intro hbd (And.intro htk (And.intro (tf_false (p := blankB (s.getD 0 0)) hbk) (And.intro hix (tf_false hN)))))
              obtain ⟨hlb, hub, hiv2⟩ := headR_inv hR
              have hP : headP b = if l.length ≤ 1000 ∧ u ≤ 100000 then (List.map trimF l, u, 0) else ([], 0, 2) := by unfold headP; rw [hR]
              by_cases hlu : l.length ≤ 1000 ∧ u ≤ 100000
              · rw [hP, if_pos hlu]
                clear hP
                repeat' (first | refine go ?_ | (refine br (fun hc => ?_) (fun hc => ?_) <;> try (exfalso; omega)) | fail)
                refine loop (fun i : Nat => (.top :: .top :: .top :: .top :: .top :: .vsl H.length l.length :: .int .i64 (u : Nat) :: .top :: .top :: .top :: .top :: .top :: .top :: .top :: .top :: .top :: .top :: .top :: .top :: .top :: .top :: .top :: .top :: .top :: .top :: .top :: .top :: .top :: .top :: .top :: .top :: .top :: .top :: .top :: .top :: .top :: .top :: .top :: .top :: .top :: .top :: .top :: .top :: .top :: .top :: .top :: .top :: .top :: .top :: .top :: .top :: .top :: .top :: .top :: .top :: .top :: .top :: .top :: .top :: .top :: .top :: .top :: .top :: .top :: .top :: .top :: .top :: .top :: .top :: .top :: .top :: .top :: .top :: .top :: .top :: .top :: .top :: .top :: .top :: .top :: .top :: .top :: .top :: .top :: .top :: .int .i64 l.length :: .int .i64 (i : Int) :: .top :: .top :: .top :: .top :: .top :: .top :: .top :: .top :: .top :: .top :: .top :: .top :: .top :: .top :: .top :: [])) (fun i => H ++ [.vec 2 l.length (fldAV (trimTo l i))]) (fun i => i ≤ l.length) (fun i => l.length - i) 0 (Nat.zero_le _) ?_
                intro i hi
                have hfl := fldAV_len (trimTo l i)
                rw [trimTo_len] at hfl
                by_cases hlt : i < l.length
                · have hbd := fldAV_body (l := trimTo l i) (i := i) (by rw [trimTo_len]; exact hlt)
                  rw [trimTo_get hlt] at hbd
                  have hbl := hiv2 (l.getD i ([], [])) (by rw [List.getD_eq_getElem?_getD, List.getElem?_eq_getElem hlt]; exact List.getElem_mem _)
                  have hh := And.intro hbd hfl
                  repeat' (first | refine go ?_ | (refine br (fun hc => ?_) (fun hc => ?_) <;> try (exfalso; omega)) | fail)
                  refine againE (i + 1) (by omega) (by omega) ?_
                  have e := fldAV_setBody (l := trimTo l i) (i := i) (v := Lib.trimS (l.getD i ([], [])).2 [32, 9]) (by rw [trimTo_len]; exact hlt)
                  rw [trimTo_get hlt] at e
                  have e2 := trimTo_succ hlt
                  unfold trimF at e2
                  rw [e2] at e
                  rw [← e]
                  simp [setRange]
                · obtain rfl : i = l.length := by omega
                  have e : trimTo l l.length = List.map trimF l := by simp [trimTo]
                  rw [e]
                  refine gos ?_
                  refine wseq_normal ?_
                  refine gos ?_
                  refine wseq_normal ?_
                  refine gos ?_
                  refine wseq_shift (Shift.know 2 (sz := 2) rfl (by rw [List.getElem?_append_right (Nat.le_refl _), Nat.sub_self]; rfl)) ?_
                  simp only [List.set_cons_succ, List.set_cons_zero, setE0]
                  repeat' (first | refine go ?_ | (refine br (fun hc => ?_) (fun hc => ?_) <;> try (exfalso; omega)) | fail)
                  refine .junkd ⟨?_, rfl⟩
                  simp [parseV, tokP]
              · rw [hP, if_neg hlu]
                clear hP
                repeat' (first | refine go ?_ | (refine br (fun hc => ?_) (fun hc => ?_) <;> try (exfalso; omega)) | fail)
                all_goals exact .junkd ⟨rfl, rfl⟩
  · have he : linesOf (b.drop u) = [] := by
      rw [List.drop_eq_nil_of_le (by omega)]; exact linesOf_none rfl
    rw [he, List.append_nil] at h1
    have hR := headR_go h1 h2
    have hh := hbd
    obtain ⟨hlb, hub, hiv2⟩ := headR_inv hR
    have hP : headP b = if l.length ≤ 1000 ∧ u ≤ 100000 then (List.map trimF l, u, 0) else ([], 0, 2) := by unfold headP; rw [hR]
    by_cases hlu : l.length ≤ 1000 ∧ u ≤ 100000
    · rw [hP, if_pos hlu]
      clear hP
      repeat' (first | refine go ?_ | (refine br (fun hc => ?_) (fun hc => ?_) <;> try (exfalso; omega)) | fail)
      refine loop (fun i : Nat => (.top :: .top :: .top :: .top :: .top :: .vsl H.length l.length :: .int .i64 (u : Nat) :: .top :: .top :: .top :: .top :: .top :: .top :: .top :: .top :: .top :: .top :: .top :: .top :: .top :: .top :: .top :: .top :: .top :: .top :: .top :: .top :: .top :: .top :: .top :: .top :: .top :: .top :: .top :: .top :: .top :: .top :: .top :: .top :: .top :: .top :: .top :: .top :: .top :: .top :: .top :: .top :: .top :: .top :: .top :: .top :: .top :: .top :: .top :: .top :: .top :: .top :: .top :: .top :: .top :: .top :: .top :: .top :: .top :: .top :: .top :: .top :: .top :: .top :: .top :: .top :: .top :: .top :: .top :: .top :: .top :: .top :: .top :: .top :: .top :: .top :: .top :: .top :: .top :: .top :: .int .i64 l.length :: .int .i64 (i : Int) :: .top :: .top :: .top :: .top :: .top :: .top :: .top :: .top :: .top :: .top :: .top :: .top :: .top :: .top :: .top :: [])) (fun i => H ++ [.vec 2 l.length (fldAV (trimTo l i))]) (fun i => i ≤ l.length) (fun i => l.length - i) 0 (Nat.zero_le _) ?_
      intro i hi
      have hfl := fldAV_len (trimTo l i)
      rw [trimTo_len] at hfl
      by_cases hlt : i < l.length
      · have hbd := fldAV_body (l := trimTo l i) (i := i) (by rw [trimTo_len]; exact hlt)
        rw [trimTo_get hlt] at hbd
        have hbl := hiv2 (l.getD i ([], [])) (by rw [List.getD_eq_getElem?_getD, List.getElem?_eq_getElem hlt]; exact List.getElem_mem _)
        have hh := And.intro hbd hfl
        repeat' (first | refine go ?_ | (refine br (fun hc => ?_) (fun hc => ?_) <;> try (exfalso; omega)) | fail)
        refine againE (i + 1) (by omega) (by omega) ?_
        have e := fldAV_setBody (l := trimTo l i) (i := i) (v := Lib.trimS (l.getD i ([], [])).2 [32, 9]) (by rw [trimTo_len]; exact hlt)
        rw [trimTo_get hlt] at e
        have e2 := trimTo_succ hlt
        unfold trimF at e2
        rw [e2] at e
        rw [← e]
        simp [setRange]
      · obtain rfl : i = l.length := by omega
        have e : trimTo l l.length = List.map trimF l := by simp [trimTo]
        rw [e]
        refine gos ?_
        refine wseq_normal ?_
        refine gos ?_
        refine wseq_normal ?_
        refine gos ?_
        refine wseq_shift (Shift.know 2 (sz := 2) rfl (by rw [List.getElem?_append_right (Nat.le_refl _), Nat.sub_self]; rfl)) ?_
        simp only [List.set_cons_succ, List.set_cons_zero, setE0]
        repeat' (first | refine go ?_ | (refine br (fun hc => ?_) (fun hc => ?_) <;> try (exfalso; omega)) | fail)
        refine .junkd ⟨?_, rfl⟩
        simp [parseV, tokP]
    · rw [hP, if_neg hlu]
      clear hP
      repeat' (first | refine go ?_ | (refine br (fun hc => ?_) (fun hc => ?_) <;> try (exfalso; omega)) | fail)
      all_goals exact .junkd ⟨rfl, rfl⟩

end Go.Ab.Tryz

end

section
set_option linter.unusedSimpArgs false
set_option linter.unusedVariables false
set_option maxHeartbeats 8000000
set_option maxRecDepth 10000
namespace Go.Ab.Tryz
open Go Go.Ab Go.Proofs
attribute [local irreducible] W Wl Wop TrA WSeq WLoopS FPost DPost RPost WRound DK onEnd
attribute [local simp] belowL_bytesAV belowL_fldAV belowL_strsM
variable {n0 : Nat} {w0 : World} {gl : Nat → List AV} {H : List AO}

/-- A head that is shown, with room behind it. -/
theorem ref_showT_e (l : Flds) (s : List UInt8) (hl : l.length ≤ 9223372036854775807) (hb : ∀ i, i < l.length → (l.getD i ([], [])).1.length + (l.getD i ([], [])).2.length ≤ 1000000) (hq : showR l = .inl s) :
    AEnter (env n0 w0 gl) 162 [.sl l.length (fldAV l) .ro] H (fun y H' => y = .ret (.tup [.sl s.length (bytesAV s) (.at (H.length + 1) s.length), .int .i64 0]) ∧ H' = H ++ [.dead, .tail 1 s.length]) := by
  have hfl := fldAV_len l
  refine enter (md := fun _ => 0) Tryz.func162 (fun hfit hgl => ?_)
  have hh := hfl
  repeat' (first | refine go ?_ | (refine br (fun hc => ?_) (fun hc => ?_) <;> try (exfalso; omega)) | fail)
  refine loop0 (fun i : Nat => (.sl l.length (fldAV l) .ro :: .top :: .top :: .top :: .top :: .top :: .top :: .top :: .top :: .top :: .top :: .top :: .sl l.length (fldAV l) .ro :: .int .i64 l.length :: .int .i64 (i : Int) :: .top :: .top :: .top :: .top :: .top :: .top :: .top :: .top :: .top :: .top :: .top :: .top :: .top :: .top :: .top :: .top :: .top :: .top :: .top :: .top :: .top :: .top :: .top :: .top :: .top :: .top :: .top :: .top :: .top :: .top :: .top :: .top :: .top :: .top :: .top :: .top :: .top :: .top :: .top :: .top :: .top :: .top :: .top :: .top :: .top :: .top :: .top :: .top :: .top :: .top :: .top :: .top :: .top :: .top :: .top :: [])) (fun i => i ≤ l.length ∧ ∀ k, k < i → FldOk (l.getD k ([], []))) (fun i => l.length - i) 0 ⟨Nat.zero_le _, fun k h => absurd h (Nat.not_lt_zero _)⟩ ?_
  rintro i ⟨hi, hall⟩
  by_cases hlt : i < l.length
  · have hat := fldAV_at hlt
    have hbi := hb i hlt
    have hno : ¬ FldOk (l.getD i ([], [])) → showR l = .inr 80 := fun h => by
      unfold showR
      rw [tf_false (fun hh => h (hh i hlt))]; rfl
    generalize hf : l.getD i ([], []) = f at *
    have hyes : FldOk f → ∀ k, k < i + 1 → FldOk (l.getD k ([], [])) := fun h k hk => by
      rcases Nat.lt_succ_iff_lt_or_eq.1 hk with h1 | h1
      · exact hall k h1
      · subst h1; rw [hf]; exact h
    by_cases hN : NameOk f.1
    · by_cases hP : PlainOk f.2
      · have hh := And.intro hfl (And.intro hat (And.intro (tf_true hN) (tf_true hP)))
        repeat' (first | refine go ?_ | (refine br (fun hc => ?_) (fun hc => ?_) <;> try (exfalso; omega)) | fail)
        exact again (i + 1) ⟨by omega, hyes ⟨hN, hP⟩⟩
      · have hh := And.intro hfl (And.intro hat (And.intro (tf_true hN) (tf_false hP)))
        repeat' (first | refine go ?_ | (refine br (fun hc => ?_) (fun hc => ?_) <;> try (exfalso; omega)) | fail)
        exact absurd (hq.symm.trans (hno (fun h => hP h.2))) (by simp)
    · have hh := And.intro hfl (And.intro hat (tf_false hN))
      repeat' (first | refine go ?_ | (refine br (fun hc => ?_) (fun hc => ?_) <;> try (exfalso; omega)) | fail)
      exact absurd (hq.symm.trans (hno (fun h => hN h.1))) (by simp)
  · obtain rfl : i = l.length := by omega
    have hR : showR l = if l.length ≤ 1000 ∧ (showL l).length ≤ 99998 then .inl (showL l ++ [13, 10]) else .inr 2 := by unfold showR; rw [tf_true hall]; rfl
    repeat' (first | refine go ?_ | (refine br (fun hc => ?_) (fun hc => ?_) <;> try (exfalso; omega)) | fail)
    · rw [if_neg (by omega)] at hR
      exact absurd (hq.symm.trans hR) (by simp)
    · refine loop0 (fun i : Nat => (.sl l.length (fldAV l) .ro :: .top :: .top :: .top :: .top :: .top :: .int .i64 (2 + (showL (l.take i)).length : Nat) :: .top :: .top :: .top :: .top :: .top :: .top :: .top :: .top :: .top :: .top :: .top :: .top :: .top :: .top :: .top :: .top :: .top :: .top :: .top :: .top :: .top :: .top :: .top :: .top :: .top :: .sl l.length (fldAV l) .ro :: .int .i64 l.length :: .int .i64 (i : Int) :: .top :: .top :: .top :: .top :: .top :: .top :: .top :: .top :: .top :: .top :: .top :: .top :: .top :: .top :: .top :: .top :: .top :: .top :: .top :: .top :: .top :: .top :: .top :: .top :: .top :: .top :: .top :: .top :: .top :: .top :: .top :: .top :: .top :: .top :: .top :: [])) (fun i => i ≤ l.length ∧ (showL (l.take i)).length ≤ 99998) (fun i => l.length - i) 0 ⟨Nat.zero_le _, by simp [showL]⟩ ?_ (.fgt (by repeat (first | exact fgt_nil | refine fgt_top ?_ | refine fgt_same rfl ?_ | refine fgt_same (by simp [showL]) ?_)))
      rintro i ⟨hi, hle⟩
      by_cases hlt : i < l.length
      · have hat := fldAV_at hlt
        have hbi := hb i hlt
        have hst := showL_take hlt
        have hmo := showL_mono l (i + 1)
        generalize hf : l.getD i ([], []) = f at *
        have hsl : (showL (l.take (i + 1))).length = (showL (l.take i)).length + (f.1.length + (f.2.length + 4)) := by rw [hst]; simp [showF]
        have hh := And.intro hfl hat
        repeat' (first | refine go ?_ | (refine br (fun hc => ?_) (fun hc => ?_) <;> try (exfalso; omega)) | fail)
        · rw [if_neg (by omega)] at hR
          exact absurd (hq.symm.trans hR) (by simp)
        · refine again (i + 1) ⟨by omega, by omega⟩ (by omega) (.fgt_drop (by rw [hsl]; repeat (first | exact fgt_nil | refine fgt_top ?_ | refine fgt_same rfl ?_ | refine fgt_same (by congr 1; omega) ?_)) hgl (Nat.le_refl _) hfit (by simp [belowL, AV.within]) rfl)
      · obtain rfl : i = l.length := by omega
        rw [List.take_length] at hle ⊢
        rw [if_pos ⟨by omega, by omega⟩] at hR
        have hsq : s = showL l ++ [13, 10] := by have := hq.symm.trans hR; simpa using this
        subst hsq
        clear hR
        refine gos ?_
        refine wseq_normal ?_
        refine gos ?_
        refine wseq_normal ?_
        refine gos ?_
        refine wseq_shift (Shift.vec 1 9 rfl) ?_
        simp only [List.set_cons_succ, List.set_cons_zero]
        repeat' (first | refine go ?_ | (refine br (fun hc => ?_) (fun hc => ?_) <;> try (exfalso; omega)) | fail)
        refine loop (fun i : Nat => (.sl l.length (fldAV l) .ro :: .top :: .top :: .top :: .top :: .top :: .top :: .top :: .top :: .vsl H.length (showL (l.take i)).length :: .top :: .top :: .top :: .top :: .top :: .top :: .top :: .top :: .top :: .top :: .top :: .top :: .top :: .top :: .top :: .top :: .top :: .top :: .top :: .top :: .top :: .top :: .top :: .top :: .top :: .top :: .top :: .top :: .top :: .top :: .top :: .top :: .top :: .top :: .top :: .top :: .top :: .top :: .top :: .top :: .top :: .sl l.length (fldAV l) .ro :: .int .i64 l.length :: .int .i64 (i : Int) :: .top :: .top :: .top :: .top :: .top :: .top :: .top :: .top :: .top :: .top :: .top :: .top :: .top :: .top :: .top :: .top :: [])) (fun i => H ++ [.vec 1 (showL (l.take i)).length (bytesAV (showL (l.take i)))]) (fun i => i ≤ l.length) (fun i => l.length - i) 0 (Nat.zero_le _) ?_
        intro i hi
        by_cases hlt : i < l.length
        · have hat := fldAV_at hlt
          have hbi := hb i hlt
          have hst := showL_take hlt
          have hmo := showL_mono l (i + 1)
          generalize hf : l.getD i ([], []) = f at *
          have hsl : (showL (l.take (i + 1))).length = (showL (l.take i)).length + (f.1.length + (f.2.length + 4)) := by rw [hst]; simp [showF]
          have hsb : bytesAV (showL (l.take (i + 1))) = bytesAV (showL (l.take i)) ++ bytesAV (f.1 ++ 58 :: 32 :: (f.2 ++ [13, 10])) := by rw [hst, bytesAV_append]; simp [showF]
          have hh := And.intro hfl hat
          repeat' (first | refine go ?_ | (refine br (fun hc => ?_) (fun hc => ?_) <;> try (exfalso; omega)) | fail)
          rw [show ∀ (n : Nat) (xs : List AV) (b : AO), H ++ [.vec 1 n xs, b] = (H ++ [.vec 1 n xs]) ++ [b] from fun _ _ _ => by simp, ← hsl, ← hsb]
          exact again (i + 1) (by omega)
        · obtain rfl : i = l.length := by omega
          rw [List.take_length]
          refine gos ?_
          refine wseq_normal ?_
          refine gos ?_
          refine wseq_normal ?_
          refine gos ?_
          refine wseq_shift (Shift.vecTail 2 (sz := 1) rfl (by rw [List.getElem?_append_right (Nat.le_refl _), Nat.sub_self]; rfl)) ?_
          simp only [List.set_cons_succ, List.set_cons_zero, setE0, List.append_assoc, List.cons_append, List.nil_append, List.length_append, List.length_cons, List.length_nil, Nat.zero_add, Nat.reduceAdd]
          repeat' (first | refine go ?_ | (refine br (fun hc => ?_) (fun hc => ?_) <;> try (exfalso; omega)) | fail)
          exact .now ⟨by simp [bytesAV, byteAV], rfl⟩

end Go.Ab.Tryz

end

section
set_option linter.unusedSimpArgs false
set_option linter.unusedVariables false
set_option maxHeartbeats 8000000
set_option maxRecDepth 10000
namespace Go.Ab.Tryz
open Go Go.Ab Go.Proofs
attribute [local irreducible] W Wl Wop TrA WSeq WLoopS FPost DPost RPost WRound DK onEnd
attribute [local simp] belowL_bytesAV belowL_fldAV belowL_strsM
variable {n0 : Nat} {w0 : World} {gl : Nat → List AV} {H : List AO}

/-- How many jobs are told. -/
noncomputable def cntS (l : List JobA) : Nat := (l.filter fun x => tf x.Told).length
theorem cntS_take {l : List JobA} {i : Nat} (h : i < l.length) : cntS (l.take (i + 1)) = cntS (l.take i) + (if tf (l.getD i default).Told then 1 else 0) := by
  unfold cntS
  rw [List.take_succ_eq_append_getElem h, List.filter_append, List.length_append]
  have e : l.getD i default = l[i] := by simp [List.getD_eq_getElem?_getD, h]
  rw [e]
  by_cases ht : l[i].Told
  · simp [tf_true ht]
  · simp [tf_false ht]
theorem cntS_le (l : List JobA) : cntS l ≤ l.length := List.length_filter_le ..
theorem cntS_zero : ∀ l : List JobA, (cntS l : Int) = 0 ↔ toldS l = []
  | [] => by simp [cntS, toldS]
  | x :: l => by
    have ih := cntS_zero l
    by_cases ht : x.Told
    · have e1 : cntS (x :: l) = cntS l + 1 := by simp [cntS, tf_true ht]
      have e2 : toldS (x :: l) ≠ [] := by simp only [toldS, List.flatMap_cons]; rw [told_of ht]; simp
      rw [e1]
      exact ⟨fun h => by omega, fun h => absurd h e2⟩
    · have e1 : cntS (x :: l) = cntS l := by simp [cntS, tf_false ht]
      have e2 : toldS (x :: l) = toldS l := by simp only [toldS, List.flatMap_cons]; rw [told_no ht]; rfl
      rw [e1, e2]; exact ih
theorem ref_make_e [ht : Tab10 n0 w0] (host : List UInt8) (now : Int) (fro : List UInt8) (to : List (List UInt8)) (a : Int) (l : List JobA) (h1 : host.length ≤ 9223372036854775807) (h2 : fro.length ≤ 9223372036854775807) (hl : l.length ≤ 100000) (hj : ∀ x ∈ l, x.Big ∧ x.rcpt.length ≤ 100000) :
    AEnter (env n0 w0 gl) 90 [.str host, .int .i64 now, .agg [.str fro, .sl to.length (to.map .str) .ro, .int .i64 a], .sl l.length (jobAV l) .ro] H (fun y H' => y = .ret (makeV host now fro l) ∧ H' = H) := by
  have hbad : ¬ (MakeOk host now fro ∧ toldS l ≠ []) → makeV host now fro l = .tup [.agg [.str [], .sl 0 [] .full, .int .i64 0], .sl 0 [] .full, .bool false] := fun h => by unfold makeV; rw [tf_false h]; rfl
  by_cases hok : MakeOk host now fro
  · obtain ⟨g1, g2, g3⟩ := hok
    have hsh : ∀ H tok, Ctr (env n0 w0 gl) 162 [.sl 3 [.str [70, 114, 111, 109], .str (109 :: 97 :: 105 :: 108 :: 101 :: 114 :: 45 :: 100 :: 97 :: 101 :: 109 :: 111 :: 110 :: 64 :: host), .str [84, 111], .str fro, .str [83, 117, 98, 106, 101, 99, 116], .str [117, 110, 100, 101, 108, 105, 118, 101, 114, 101, 100]] tok] H True
        (.tup [.sl (bncH host fro).length (bytesAV (bncH host fro)) (.at (H.length + 1) (bncH host fro).length), .int .i64 0]) (H ++ [.dead, .tail 1 (bncH host fro).length]) := fun H tok => ⟨fun _ => by
      have := (ref_showT_e (n0 := n0) (w0 := w0) (gl := gl) (H := H) (bncF host fro) (bncH host fro) (by show 3 ≤ _; decide) (by
        intro i hi
        have hd := domain_le g2
        have hm := mailbox_le g1
        have hi3 : i < 3 := hi
        match i, hi3 with
        | 0, _ => simp [bncF]; omega
        | 1, _ => simp [bncF]; omega
        | 2, _ => simp [bncF]) (show_bnc g2 g1)).call
      exact fun g w cs hr hv => this g w cs hr ⟨hv.1, fun i => match i with
        | 0 => sl_ro g _ (hv.2 0)
        | i + 1 => .top _⟩⟩
    have hHl := bncH_len g2 g1
    have hd := domain_le g2
    have hm := mailbox_le g1
    have hfl := jobAV_len l
    have hh := And.intro (tf_true g1) (tf_true g2)
    refine enter (md := fun _ => 0) Tryz.func90 (fun hfit hgl => ?_)
    repeat' (first | refine go ?_ | (refine br (fun hc => ?_) (fun hc => ?_) <;> try (exfalso; omega)) | fail)
    refine loop (fun i : Nat => (.str host :: .int .i64 now :: .top :: .sl l.length (jobAV l) .ro :: .top :: .top :: .ref H.length 0 :: .top :: .ref (H.length + 1) 0 :: .sl 0 [] .full :: .bool false :: .sl (bncH host fro ++ toldS (l.take i)).length (bytesAV (bncH host fro ++ toldS (l.take i))) (.at (H.length + 3) (bncH host fro ++ toldS (l.take i)).length) :: .int .i64 0 :: .int .i64 (cntS (l.take i) : Nat) :: .top :: .top :: .top :: .top :: .top :: .top :: .top :: .top :: .top :: .top :: .top :: .top :: .top :: .top :: .top :: .top :: .top :: .top :: .top :: .top :: .top :: .top :: .top :: .top :: .top :: .top :: .top :: .top :: .sl l.length (jobAV l) .ro :: .int .i64 l.length :: .int .i64 (i : Int) :: .top :: .top :: .top :: .top :: .top :: .top :: .top :: .top :: .top :: .top :: .top :: .top :: .top :: .top :: .top :: .top :: .top :: .top :: .top :: .top :: .top :: .top :: .top :: .top :: .top :: .top :: .top :: .top :: .top :: .top :: .top :: .top :: .top :: .top :: .top :: .top :: .top :: []))
      (fun i => H ++ [.cells [.str fro, .sl to.length (to.map .str) .ro, .int .i64 a], .cells [.str [], .sl 0 [] .full, .int .i64 0], .dead, .tail 1 (bncH host fro ++ toldS (l.take i)).length])
      (fun i => i ≤ l.length) (fun i => l.length - i) 0 (Nat.zero_le _) ?_ (by
        have e : bncH host fro ++ toldS (l.take 0) = bncH host fro := by simp [toldS]
        rw [e]; exact Shift.auto)
    intro i hi
    have htl : (toldS (l.take i)).length ≤ 100000 * 1024 := Nat.le_trans (toldS_len fun x hx => hj x (List.mem_of_mem_take hx)) (Nat.mul_le_mul_right _ (by rw [List.length_take]; omega))
    have hcl : cntS (l.take i) ≤ i := Nat.le_trans (cntS_le _) (by rw [List.length_take]; omega)
    by_cases hlt : i < l.length
    · have hat := jobAV_at hlt
      have hmem : l.getD i default ∈ l := by rw [List.getD_eq_getElem?_getD, List.getElem?_eq_getElem hlt]; exact List.getElem_mem _
      obtain ⟨hxb, hxl⟩ := hj _ hmem
      have htk := toldS_take hlt
      have hct := cntS_take hlt
      generalize l.getD i default = x at *
      have htd : x.Told ∨ ¬ x.Told := Classical.em _
      obtain ⟨id, rc, st, tr, nx, co⟩ := x
      obtain ⟨hb1, hb2, hb3⟩ := hxb
      simp only [JobA.cells] at hat
      simp only at hxl hb1 hb2 hb3
      have hit : (Lib.itoa co).length ≤ 21 := Lib.itoa_length_le co hb2 hb3
      rcases htd with htd | htd
      · have ht2 : (JobA.mk id rc st tr nx co).told = rc ++ (32 :: (Lib.itoa co ++ [13, 10])) := by unfold JobA.told; rw [tf_true htd]; rfl
        rw [tf_true htd, if_pos rfl] at hct
        obtain ⟨q1, q2⟩ := htd
        simp only at q1 q2
        subst q1
        have hxl2 := mailbox_le q2
        have hal : (bncH host fro ++ toldS (l.take i)).length ≤ 1000 + 100000 * 1024 := by rw [List.length_append]; omega
        have hh := And.intro (tf_true q2) (And.intro hfl hat)
        have e1 : (bncH host fro).length + ((toldS (l.take i)).length + (rc.length + ((Lib.itoa co).length + 3))) = (bncH host fro ++ toldS (l.take (i + 1))).length := by rw [htk, ht2]; simp <;> omega
        have e2 : bytesAV (bncH host fro ++ toldS (l.take i)) ++ bytesAV (rc ++ 32 :: (Lib.itoa co ++ [13, 10])) = bytesAV (bncH host fro ++ toldS (l.take (i + 1))) := by rw [htk, ht2, ← bytesAV_append, List.append_assoc]
        have e5 : (cntS (l.take i) : Int) + 1 = (cntS (l.take (i + 1)) : Nat) := by rw [hct]; omega
        repeat' (first | refine go ?_ | (refine br (fun hc => ?_) (fun hc => ?_) <;> try (exfalso; omega)) | fail)
        rw [e1, e2, e5]
        exact againJ (i + 1) (by omega) (by omega) [.cells [.int .i64 id, .str rc, .int .i64 3, .int .i64 tr, .int .i64 nx, .int .i64 co]] (by simp)
      · have ht2 : (JobA.mk id rc st tr nx co).told = [] := by unfold JobA.told; rw [tf_false htd]; rfl
        rw [tf_false htd] at hct
        simp only [Bool.false_eq_true, if_false, Nat.add_zero] at hct
        have e1 : bncH host fro ++ toldS (l.take (i + 1)) = bncH host fro ++ toldS (l.take i) := by rw [htk, ht2, List.append_nil]
        have e4 : (toldS (l.take (i + 1))).length = (toldS (l.take i)).length := by have := congrArg List.length e1; simpa using this
        by_cases q1 : st = 3
        · have q2 : ¬ MailboxOk rc := fun h => htd ⟨q1, h⟩
          subst q1
          have hh := And.intro (tf_false q2) (And.intro hfl hat)
          repeat' (first | refine go ?_ | (refine br (fun hc => ?_) (fun hc => ?_) <;> try (exfalso; omega)) | fail)
          rw [← e1, ← hct]
          exact againJ (i + 1) (by omega) (by omega) [.cells [.int .i64 id, .str rc, .int .i64 3, .int .i64 tr, .int .i64 nx, .int .i64 co]] (by simp [e4])
        · have hh := And.intro hfl hat
          repeat' (first | refine go ?_ | (refine br (fun hc => ?_) (fun hc => ?_) <;> try (exfalso; omega)) | fail)
          rw [← e1, ← hct]
          exact againJ (i + 1) (by omega) (by omega) [.cells [.int .i64 id, .str rc, .int .i64 st, .int .i64 tr, .int .i64 nx, .int .i64 co]] (by simp [e4])
    · obtain rfl : i = l.length := by omega
      rw [List.take_length] at htl hcl ⊢
      have hmk : toldS l ≠ [] → makeV host now fro l = .tup [.agg [.str [], .sl 1 [.str fro] .full, .int .i64 now], .sl (bncH host fro ++ toldS l).length (bytesAV (bncH host fro ++ toldS l)) .ro, .bool true] := fun h => by unfold makeV; rw [tf_true ⟨⟨g1, g2, g3⟩, h⟩]; rfl
      have hc0 : (cntS l : Int) = 0 ↔ toldS l = [] := cntS_zero l
      by_cases hz : toldS l = []
      · have hzz := hc0.2 hz
        rw [hbad (fun h => h.2 hz)]
        repeat' (first | refine go ?_ | (refine br (fun hc => ?_) (fun hc => ?_) <;> try (exfalso; omega)) | fail)
        exact .junkd ⟨rfl, rfl⟩
      · have hzz : ¬ (cntS l : Int) = 0 := fun h => hz (hc0.1 h)
        rw [hmk hz]
        repeat' (first | refine go ?_ | (refine br (fun hc => ?_) (fun hc => ?_) <;> try (exfalso; omega)) | fail)
        rw [← show (bncH host fro ++ toldS l).length = (bncH host fro).length + (toldS l).length from List.length_append]
        refine Out.weak (b := .tup [.agg [.str [], .sl 1 [.str fro] .full, .int .i64 now], .sl (bncH host fro ++ toldS l).length (bytesAV (bncH host fro ++ toldS l)) .ro, .bool true]) (fun g c r => tupW (by rfl) (fun i c r => ?_) r) (.junkd ⟨rfl, rfl⟩)
        match i with
        | 0 => exact r
        | 1 => exact sl_ro g _ r
        | 2 => exact r
        | i + 3 => exact .top _
  · rw [hbad (fun h => hok h.1)]
    by_cases g1 : MailboxOk fro
    · by_cases g2 : DomainOk host
      · have g3 : ¬ 0 ≤ now := fun g3 => hok ⟨g1, g2, g3⟩
        have hh := And.intro (tf_true g1) (tf_true g2)
        refine enter (md := fun _ => 0) Tryz.func90 (fun hfit hgl => ?_)
        repeat' (first | refine go ?_ | (refine br (fun hc => ?_) (fun hc => ?_) <;> try (exfalso; omega)) | fail)
        exact .junkd ⟨rfl, rfl⟩
      · have hh := And.intro (tf_true g1) (tf_false g2)
        refine enter (md := fun _ => 0) Tryz.func90 (fun hfit hgl => ?_)
        repeat' (first | refine go ?_ | (refine br (fun hc => ?_) (fun hc => ?_) <;> try (exfalso; omega)) | fail)
        exact .junkd ⟨rfl, rfl⟩
    · have hh := tf_false g1
      refine enter (md := fun _ => 0) Tryz.func90 (fun hfit hgl => ?_)
      repeat' (first | refine go ?_ | (refine br (fun hc => ?_) (fun hc => ?_) <;> try (exfalso; omega)) | fail)
      exact .junkd ⟨rfl, rfl⟩

end Go.Ab.Tryz

end
