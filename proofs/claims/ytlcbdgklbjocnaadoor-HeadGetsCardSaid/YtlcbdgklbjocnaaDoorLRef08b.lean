/- Walks: the reference's Show. -/
import Derived.Test.YtlcbdgklbjocnaaDoorLRef08
import Derived.Test.YtlcbdgklbjocnaaDoorLHead9
set_option linter.unusedSimpArgs false
set_option linter.unusedVariables false
set_option maxHeartbeats 2000000
set_option maxRecDepth 4000
namespace Go.Ab.Tryd
open Go Go.Ab Go.Proofs
attribute [local irreducible] W Wl Wop TrA WSeq WLoopS FPost DPost RPost WRound DK onEnd
variable {n0 : Nat} {w0 : World} {gl : Nat → List AV} {H : List AO}
attribute [local simp] belowL_bytesAV

instance ref_show_t (l : Flds) : Ctr (env n0 w0 gl) 29 [.sl l.length (fldAV l) .ro] H (l.length ≤ 9223372036854775807 ∧ ∀ i, i < l.length → (l.getD i ([], [])).1.length + (l.getD i ([], [])).2.length ≤ 1000000) (showV (showR l)) H := .of fun ⟨hl, hb⟩ => by
  have hfl := fldAV_len l
  refine enter (md := fun _ => 0) Tryd.func29 (fun hfit hgl => ?_)
  have hh := hfl
  repeat' (first | refine go ?_ | (refine br (fun hc => ?_) (fun hc => ?_) <;> try (exfalso; omega)) | fail)
  refine loop0 (fun i : Nat => (.sl l.length (fldAV l) .ro :: .top :: .top :: .top :: .top :: .top :: .top :: .top :: .top :: .top :: .top :: .top :: .sl l.length (fldAV l) .ro :: .int .i64 l.length :: .int .i64 (i : Int) :: .top :: .top :: .top :: .top :: .top :: .top :: .top :: .top :: .top :: .top :: .top :: .top :: .top :: .top :: .top :: .top :: .top :: .top :: .top :: .top :: .top :: .top :: .top :: .top :: .top :: .top :: .top :: .top :: .top :: .top :: .top :: .top :: .top :: .top :: .top :: .top :: .top :: .top :: .top :: .top :: .top :: .top :: .top :: .top :: .top :: .top :: .top :: .top :: .top :: .top :: .top :: .top :: .top :: .top :: .top :: [])) (fun i => i ≤ l.length ∧ ∀ k, k < i → FldOk (l.getD k ([], []))) (fun i => l.length - i) 0 ⟨Nat.zero_le _, fun k h => absurd h (Nat.not_lt_zero _)⟩ ?_
  rintro i ⟨hi, hall⟩
  by_cases hlt : i < l.length
  · have hat := fldAV_at hlt
    have hbi := hb i hlt
    have hno : ¬ FldOk (l.getD i ([], [])) → showR l = .inr 80 := fun h => by
      unfold showR
      rw [tf_false (fun hh => h (hh i hlt))]; rfl
    generalize hf : l.getD i ([], []) = f at *
    have hyes : FldOk f → ∀ k, k < i + 1 → FldOk (l.getD k ([], [])) := fun h k hk => by
      rcases Nat.lt_succ_iff_lt_or_eq.1 hk with h1 | h1
      · exact hall k h1
      · subst h1; rw [hf]; exact h
    by_cases hN : NameOk f.1
    · by_cases hP : PlainOk f.2
      · have hh := And.intro hfl (And.intro hat (And.intro (tf_true hN) (tf_true hP)))
        repeat' (first | refine go ?_ | (refine br (fun hc => ?_) (fun hc => ?_) <;> try (exfalso; omega)) | fail)
        exact again (i + 1) ⟨by omega, hyes ⟨hN, hP⟩⟩
      · have hh := And.intro hfl (And.intro hat (And.intro (tf_true hN) (tf_false hP)))
        repeat' (first | refine go ?_ | (refine br (fun hc => ?_) (fun hc => ?_) <;> try (exfalso; omega)) | fail)
        rw [hno (fun h => hP h.2)]
        exact .junkd ⟨rfl, rfl⟩
    · have hh := And.intro hfl (And.intro hat (tf_false hN))
      repeat' (first | refine go ?_ | (refine br (fun hc => ?_) (fun hc => ?_) <;> try (exfalso; omega)) | fail)
      rw [hno (fun h => hN h.1)]
      exact .junkd ⟨rfl, rfl⟩
  · obtain rfl : i = l.length := by omega
    have hR : showR l = if l.length ≤ 1000 ∧ (showL l).length ≤ 99998 then .inl (showL l ++ [13, 10]) else .inr 2 := by unfold showR; rw [tf_true hall]; rfl
    repeat' (first | refine go ?_ | (refine br (fun hc => ?_) (fun hc => ?_) <;> try (exfalso; omega)) | fail)
    · rw [hR, if_neg (by omega)]
      exact .now ⟨rfl, rfl⟩
    · refine loop0 (fun i : Nat => (.sl l.length (fldAV l) .ro :: .top :: .top :: .top :: .top :: .top :: .int .i64 (2 + (showL (l.take i)).length : Nat) :: .top :: .top :: .top :: .top :: .top :: .top :: .top :: .top :: .top :: .top :: .top :: .top :: .top :: .top :: .top :: .top :: .top :: .top :: .top :: .top :: .top :: .top :: .top :: .top :: .top :: .sl l.length (fldAV l) .ro :: .int .i64 l.length :: .int .i64 (i : Int) :: .top :: .top :: .top :: .top :: .top :: .top :: .top :: .top :: .top :: .top :: .top :: .top :: .top :: .top :: .top :: .top :: .top :: .top :: .top :: .top :: .top :: .top :: .top :: .top :: .top :: .top :: .top :: .top :: .top :: .top :: .top :: .top :: .top :: .top :: .top :: [])) (fun i => i ≤ l.length ∧ (showL (l.take i)).length ≤ 99998) (fun i => l.length - i) 0 ⟨Nat.zero_le _, by simp [showL]⟩ ?_ (.fgt (by repeat (first | exact fgt_nil | refine fgt_top ?_ | refine fgt_same rfl ?_ | refine fgt_same (by simp [showL]) ?_)))
      rintro i ⟨hi, hle⟩
      by_cases hlt : i < l.length
      · have hat := fldAV_at hlt
        have hbi := hb i hlt
        have hst := showL_take hlt
        have hmo := showL_mono l (i + 1)
        generalize hf : l.getD i ([], []) = f at *
        have hsl : (showL (l.take (i + 1))).length = (showL (l.take i)).length + (f.1.length + (f.2.length + 4)) := by rw [hst]; simp [showF]
        have hh := And.intro hfl hat
        repeat' (first | refine go ?_ | (refine br (fun hc => ?_) (fun hc => ?_) <;> try (exfalso; omega)) | fail)
        · rw [hR, if_neg (by omega)]
          exact .junkd ⟨rfl, rfl⟩
        · refine again (i + 1) ⟨by omega, by omega⟩ (by omega) (.fgt_drop (by rw [hsl]; repeat (first | exact fgt_nil | refine fgt_top ?_ | refine fgt_same rfl ?_ | refine fgt_same (by congr 1; omega) ?_)) hgl (Nat.le_refl _) hfit (by simp [belowL, AV.within]) rfl)
      · obtain rfl : i = l.length := by omega
        rw [List.take_length] at hle ⊢
        rw [hR, if_pos ⟨by omega, by omega⟩]
        clear hR
        refine gos ?_
        refine wseq_normal ?_
        refine gos ?_
        refine wseq_normal ?_
        refine gos ?_
        refine wseq_shift (Shift.vec 1 9 rfl) ?_
        simp only [List.set_cons_succ, List.set_cons_zero]
        repeat' (first | refine go ?_ | (refine br (fun hc => ?_) (fun hc => ?_) <;> try (exfalso; omega)) | fail)
        refine loop (fun i : Nat => (.sl l.length (fldAV l) .ro :: .top :: .top :: .top :: .top :: .top :: .top :: .top :: .top :: .vsl H.length (showL (l.take i)).length :: .top :: .top :: .top :: .top :: .top :: .top :: .top :: .top :: .top :: .top :: .top :: .top :: .top :: .top :: .top :: .top :: .top :: .top :: .top :: .top :: .top :: .top :: .top :: .top :: .top :: .top :: .top :: .top :: .top :: .top :: .top :: .top :: .top :: .top :: .top :: .top :: .top :: .top :: .top :: .top :: .top :: .sl l.length (fldAV l) .ro :: .int .i64 l.length :: .int .i64 (i : Int) :: .top :: .top :: .top :: .top :: .top :: .top :: .top :: .top :: .top :: .top :: .top :: .top :: .top :: .top :: .top :: .top :: [])) (fun i => H ++ [.vec 1 (showL (l.take i)).length (bytesAV (showL (l.take i)))]) (fun i => i ≤ l.length) (fun i => l.length - i) 0 (Nat.zero_le _) ?_
        intro i hi
        by_cases hlt : i < l.length
        · have hat := fldAV_at hlt
          have hbi := hb i hlt
          have hst := showL_take hlt
          have hmo := showL_mono l (i + 1)
          generalize hf : l.getD i ([], []) = f at *
          have hsl : (showL (l.take (i + 1))).length = (showL (l.take i)).length + (f.1.length + (f.2.length + 4)) := by rw [hst]; simp [showF]
          have hsb : bytesAV (showL (l.take (i + 1))) = bytesAV (showL (l.take i)) ++ bytesAV (f.1 ++ 58 :: 32 :: (f.2 ++ [13, 10])) := by rw [hst, bytesAV_append]; simp [showF]
          have hh := And.intro hfl hat
          repeat' (first | refine go ?_ | (refine br (fun hc => ?_) (fun hc => ?_) <;> try (exfalso; omega)) | fail)
          rw [show ∀ a b : AO, H ++ [a, b] = (H ++ [a]) ++ [b] from fun _ _ => by simp, ← hsl, ← hsb]
          exact again (i + 1) (by omega)
        · obtain rfl : i = l.length := by omega
          rw [List.take_length]
          refine gos ?_
          refine wseq_normal ?_
          refine gos ?_
          refine wseq_normal ?_
          refine gos ?_
          refine wseq_shift (Shift.know 2 (sz := 1) rfl (by rw [List.getElem?_append_right (Nat.le_refl _), Nat.sub_self]; rfl)) ?_
          simp only [List.set_cons_succ, List.set_cons_zero, setE0]
          repeat' (first | refine go ?_ | (refine br (fun hc => ?_) (fun hc => ?_) <;> try (exfalso; omega)) | fail)
          rw [show bytesAV (showL l) ++ [AV.int .u8 13, AV.int .u8 10] = bytesAV (showL l ++ [13, 10]) by simp [bytesAV, byteAV]]
          refine .junkd ⟨?_, rfl⟩
          simp [showV]

end Go.Ab.Tryd
