/- Walks: the reference's command, by verbs. (printed by mkCmd9.py) -/
import Derived.Test.YtocoejhiphcehaaGreatDoorLCmdC
section
set_option linter.unusedSimpArgs false
set_option linter.unusedVariables false
set_option maxHeartbeats 40000000
set_option maxRecDepth 4000
namespace Go.Ab.Tryz
open Go Go.Ab Go.Proofs
attribute [local irreducible] W Wl Wop TrA WSeq WLoopS FPost DPost RPost WRound DK onEnd
variable {n0 : Nat} {w0 : World} {gl : Nat → List AV} {H : List AO}
attribute [local simp] belowL_bytesAV

theorem cmdRef_v3 (b : List UInt8) (tok : Tok) (hcl : b.length ≤ 510 ∧ Clean b) (hvv : verbU ((cutB b).1.map upB) = 3) : AEnter (env n0 w0 gl) 57 [.sl b.length (bytesAV b) tok] H (fun y H' => y = .ret (cmdV (cmdP b)) ∧ H' = H) := by
  have hl := hcl.1
  refine enter (md := fun _ => 0) Tryz.func57 (fun hfit hgl => ?_)
  repeat' (first | refine go ?_ | (refine br (fun hc => ?_) (fun hc => ?_) <;> try (exfalso; omega)) | fail)
  refine loop0 (fun i : Nat => (.sl b.length (bytesAV b) tok :: .top :: .ref H.length 0 :: .top :: .top :: .top :: .top :: .top :: .top :: .top :: .top :: .top :: .top :: .top :: .top :: .top :: .top :: .top :: .top :: .top :: .top :: .top :: .top :: .top :: .top :: .top :: .top :: .top :: .top :: .sl b.length (bytesAV b) tok :: .int .i64 b.length :: .int .i64 (i : Int) :: .top :: .top :: .top :: .top :: .top :: .top :: .top :: .top :: .top :: .top :: .top :: .top :: .top :: .top :: .top :: .top :: .top :: .top :: .top :: .top :: .top :: .top :: .top :: .top :: .top :: .top :: .top :: .top :: .top :: .top :: .top :: .top :: .top :: .top :: .top :: .top :: .top :: .top :: .top :: .top :: .top :: .top :: .top :: .top :: .top :: .top :: .top :: .top :: .top :: .top :: .top :: .top :: .top :: .top :: .top :: .top :: .top :: .top :: .top :: .top :: .top :: .top :: .top :: .top :: .top :: .top :: .top :: .top :: .top :: .top :: .top :: .top :: .top :: .top :: .top :: .top :: .top :: .top :: .top :: .top :: .top :: .top :: .top :: .top :: .top :: .top :: .top :: .top :: .top :: .top :: .top :: .top :: .top :: .top :: .top :: .top :: .top :: .top :: .top :: .top :: .top :: .top :: .top :: .top :: .top :: .top :: .top :: .top :: .top :: .top :: .top :: .top :: .top :: .top :: .top :: .top :: .top :: .top :: .top :: .top :: .top :: .top :: .top :: .top :: .top :: .top :: .top :: .top :: .top :: .top :: .top :: .top :: .top :: .top :: .top :: .top :: .top :: .top :: .top :: .top :: .top :: .top :: .top :: .top :: .top :: [])) (fun i => i ≤ b.length) (fun i => b.length - i) 0 (Nat.zero_le _) ?_
  intro i hi
  by_cases hlt : i < b.length
  · have hc256 := (b.getD i 0).toNat_lt
    have hh := row_cmd hlt
    have hcc := hcl.2 i hlt
    repeat' (first | refine go ?_ | (refine br (fun hc => ?_) (fun hc => ?_) <;> try (exfalso; omega)) | fail)
    exact again (i + 1) (by omega) (by omega)
  · obtain rfl : i = b.length := by omega
    clear hlt hi
    repeat' (first | refine go ?_ | (refine br (fun hc => ?_) (fun hc => ?_) <;> try (exfalso; omega)) | fail)
    refine loop0 (fun i : Nat => (.sl b.length (bytesAV b) tok :: .top :: .ref H.length 0 :: .top :: .top :: .top :: .str b :: .str [] :: .top :: .top :: .top :: .top :: .top :: .top :: .top :: .top :: .top :: .top :: .top :: .top :: .top :: .top :: .top :: .top :: .top :: .top :: .top :: .top :: .top :: .top :: .top :: .top :: .top :: .top :: .top :: .top :: .top :: .top :: .top :: .top :: .top :: .top :: .top :: .top :: .top :: .sl b.length (bytesAV b) tok :: .int .i64 b.length :: .int .i64 (i : Int) :: .top :: .top :: .top :: .top :: .top :: .top :: .top :: .top :: .top :: .top :: .top :: .top :: .top :: .top :: .top :: .top :: .top :: .top :: .top :: .top :: .top :: .top :: .top :: .top :: .top :: .top :: .top :: .top :: .top :: .top :: .top :: .top :: .top :: .top :: .top :: .top :: .top :: .top :: .top :: .top :: .top :: .top :: .top :: .top :: .top :: .top :: .top :: .top :: .top :: .top :: .top :: .top :: .top :: .top :: .top :: .top :: .top :: .top :: .top :: .top :: .top :: .top :: .top :: .top :: .top :: .top :: .top :: .top :: .top :: .top :: .top :: .top :: .top :: .top :: .top :: .top :: .top :: .top :: .top :: .top :: .top :: .top :: .top :: .top :: .top :: .top :: .top :: .top :: .top :: .top :: .top :: .top :: .top :: .top :: .top :: .top :: .top :: .top :: .top :: .top :: .top :: .top :: .top :: .top :: .top :: .top :: .top :: .top :: .top :: .top :: .top :: .top :: .top :: .top :: .top :: .top :: .top :: .top :: .top :: .top :: .top :: .top :: .top :: .top :: .top :: .top :: .top :: .top :: .top :: [])) (fun i => i ≤ b.length ∧ (∀ k, k < i → b.getD k 0 ≠ 32)) (fun i => b.length - i) 0 ⟨Nat.zero_le _, fun k h => absurd h (Nat.not_lt_zero _)⟩ ?_
    rintro i ⟨hi, hall⟩
    unfold cmdP
    rw [tf_true hcl]
    try simp only [if_true]
    by_cases hlt : i < b.length
    · have hc256 := (b.getD i 0).toNat_lt
      have hrow := row_cmd hlt
      by_cases hcc : (b.getD i 0).toNat = 32
      · have hcb : cutB b = (b.take i, b.drop (i + 1)) := by unfold cutB; rw [cut_first hlt hall (UInt8.toNat_inj.1 hcc)]
        have hwl : (b.take i).length ≤ 510 := by rw [List.length_take]; omega
        have hrl : (b.drop (i + 1)).length ≤ 510 := by rw [List.length_drop]; omega
        generalize hw : b.take i = w at *
        generalize hr : b.drop (i + 1) = r at *
        have hf := And.intro hrow (And.intro hcc (And.intro hw hr))
        rw [hcb] at hvv ⊢
        simp only at hvv ⊢
        have hvs : verbL (w.map lowB) = 3 := by rw [← verb_same]; exact hvv
        simp only [hvv, Int.reduceEq, reduceIte]
        simp only [fillB, fillT, fillN, Int.reduceEq, reduceIte, or_true, true_or, or_false, false_or, or_self]
        unfold apR
        cases hx : skipR [70, 82, 79, 77, 58] r with
        | none =>
          simp only [Option.bind_none, Bool.false_eq_true, if_false]
          have hc1 : ∀ H, Ctr (env n0 w0 gl) 70 [.str r, .str [102, 114, 111, 109, 58]] H True (.tup [.str [], .bool false]) H := fun H => ⟨fun _ => by
            have := (cut23_t (n0 := n0) (w0 := w0) (gl := gl) (H := H) [102, 114, 111, 109, 58] r).call ⟨by omega, by decide⟩
            rw [skip_same _ _ (by decide)] at this
            rw [show ([102, 114, 111, 109, 58] : List UInt8).map upB = [70, 82, 79, 77, 58] by decide +kernel, hx] at this
            exact this⟩
          have hp : ∀ H, Ctr (env n0 w0 gl) 71 [.str []] H True (.tup [.str [], .str [], .bool false]) H := fun H => ⟨fun _ => by
            have := (refParse_t (n0 := n0) (w0 := w0) (gl := gl) (H := H) []).call (by first | omega | simp)
            unfold pathV at this
            rw [path_nil] at this
            exact this⟩
          have hh := And.intro hf hvs
          repeat' (first | refine go ?_ | (refine br (fun hc => ?_) (fun hc => ?_) <;> try (exfalso; omega)) | fail)
          all_goals exact .junkd ⟨rfl, rfl⟩
        | some x =>
          have hxl := skipR_len hx
          simp only [Option.bind_some]
          have hc1 : ∀ H, Ctr (env n0 w0 gl) 70 [.str r, .str [102, 114, 111, 109, 58]] H True (.tup [.str x, .bool true]) H := fun H => ⟨fun _ => by
            have := (cut23_t (n0 := n0) (w0 := w0) (gl := gl) (H := H) [102, 114, 111, 109, 58] r).call ⟨by omega, by decide⟩
            rw [skip_same _ _ (by decide)] at this
            rw [show ([102, 114, 111, 109, 58] : List UInt8).map upB = [70, 82, 79, 77, 58] by decide +kernel, hx] at this
            exact this⟩
          cases hq : pathR x with
          | none =>
            try simp only [Bool.false_eq_true, if_false]
            have hp : ∀ H, Ctr (env n0 w0 gl) 71 [.str x] H True (.tup [.str [], .str x, .bool false]) H := fun H => ⟨fun _ => by
              have := (refParse_t (n0 := n0) (w0 := w0) (gl := gl) (H := H) x).call (by first | omega | simp)
              unfold pathV at this
              rw [hq] at this
              exact this⟩
            have hh := And.intro hf hvs
            repeat' (first | refine go ?_ | (refine br (fun hc => ?_) (fun hc => ?_) <;> try (exfalso; omega)) | fail)
            all_goals exact .junkd ⟨rfl, rfl⟩
          | some q =>
            obtain ⟨a, y⟩ := q
            have hal := path_len hq
            simp only
            have hp : ∀ H, Ctr (env n0 w0 gl) 71 [.str x] H True (.tup [.str a, .str y, .bool true]) H := fun H => ⟨fun _ => by
              have := (refParse_t (n0 := n0) (w0 := w0) (gl := gl) (H := H) x).call (by first | omega | simp)
              unfold pathV at this
              rw [hq] at this
              exact this⟩
            unfold sizeR
            by_cases hy0 : y = []
            · subst hy0
              rw [if_pos rfl]
              simp only [Option.isSome_some, Option.getD_some, if_true]
              have hh := And.intro hf hvs
              repeat' (first | refine go ?_ | (refine br (fun hc => ?_) (fun hc => ?_) <;> try (exfalso; omega)) | fail)
              all_goals exact .junkd ⟨rfl, rfl⟩
            · rw [if_neg hy0]
              have hyl0 : y.length ≠ 0 := fun h => hy0 (List.length_eq_zero_iff.1 h)
              cases hz : skipR [32, 83, 73, 90, 69, 61] y with
              | none =>
                simp only [Option.isSome_none, Bool.false_eq_true, if_false]
                obtain ⟨z, hzz⟩ : ∃ z : List UInt8, z = [] := ⟨_, rfl⟩
                have hc2 : ∀ H, Ctr (env n0 w0 gl) 70 [.str y, .str [32, 115, 105, 122, 101, 61]] H True (.tup [.str z, .bool false]) H := fun H => ⟨fun _ => by
                  have := (cut23_t (n0 := n0) (w0 := w0) (gl := gl) (H := H) [32, 115, 105, 122, 101, 61] y).call ⟨by omega, by decide⟩
                  rw [skip_same _ _ (by decide)] at this
                  rw [show ([32, 115, 105, 122, 101, 61] : List UInt8).map upB = [32, 83, 73, 90, 69, 61] by decide +kernel, hz] at this
                  rw [hzz]; exact this⟩
                have hh := And.intro hf (And.intro hvs (And.intro hy0 hyl0))
                have hz19 : z.length = 0 := by rw [hzz]; rfl
                repeat' (first | refine go ?_ | (refine br (fun hc => ?_) (fun hc => ?_) <;> try (exfalso; omega)) | fail)
                refine loop0 (fun i : Nat => (.top :: .top :: .ref H.length 0 :: .top :: .top :: .top :: .top :: .top :: .top :: .ref (H.length + 1) 0 :: .bool false :: .top :: .top :: .top :: .top :: .top :: .str (z.drop i) :: .top :: .top :: .top :: .top :: .top :: .top :: .top :: .top :: .top :: .top :: .top :: .top :: .top :: .top :: .top :: .top :: .top :: .top :: .top :: .top :: .top :: .top :: .top :: .top :: .top :: .top :: .top :: .top :: .top :: .top :: .top :: .top :: .top :: .top :: .top :: .top :: .top :: .top :: .top :: .top :: .top :: .top :: .top :: .top :: .top :: .top :: .top :: .top :: .top :: .top :: .top :: .top :: .top :: .top :: .top :: .top :: .top :: .top :: .top :: .top :: .top :: .top :: .top :: .top :: .top :: .top :: .top :: .top :: .top :: .top :: .top :: .top :: .top :: .top :: .top :: .top :: .top :: .top :: .top :: .top :: .top :: .top :: .top :: .top :: .top :: .top :: .top :: .top :: .top :: .top :: .top :: .top :: .top :: .top :: .top :: .top :: .top :: .top :: .top :: .top :: .top :: .top :: .top :: .top :: .top :: .top :: .top :: .top :: .top :: .top :: .top :: .top :: .top :: .top :: .top :: .top :: .top :: .top :: .top :: .top :: .top :: .top :: .top :: .top :: .top :: .top :: .top :: .top :: .top :: .top :: .top :: .top :: .top :: .top :: .top :: .top :: .top :: .top :: .top :: .top :: .top :: .top :: .top :: .top :: .top :: .top :: .top :: .top :: .top :: .top :: .top :: .top :: .top :: .top :: .top :: .top :: .top :: .top :: .top :: .top :: [])) (fun i => i ≤ z.length ∧ (z = [] ∨ i < z.length) ∧ (∀ k, k < i → (z.getD k 0).toNat = 48)) (fun i => z.length - i) 0 ⟨Nat.zero_le _, by by_cases h : z = []; exact .inl h; exact .inr (List.length_pos_iff.2 h), fun k h => absurd h (Nat.not_lt_zero _)⟩ ?_
                rintro j ⟨hj, hj2, hj48⟩
                have hdl : (z.drop j).length = z.length - j := List.length_drop
                have hd0 : (z.drop j).getD 0 0 = z.getD j 0 := drop_get z j 0
                have hdd : List.drop 1 (List.drop j z) = List.drop (j + 1) z := by rw [List.drop_drop]
                have hj256 := (z.getD j 0).toNat_lt
                have hlen0 : z = [] → z.length = 0 := fun h => by rw [h]; rfl
                by_cases hjn : 1 < z.length - j ∧ (z.getD j 0).toNat = 48
                · obtain ⟨hj3, hj4⟩ := hjn
                  exfalso; omega
                · obtain ⟨m, o, hmo⟩ := numV_form (z.drop j)
                  have hN : ∀ H, Ctr (env n0 w0 gl) 72 [.str (List.drop j z)] H True (.tup [.int .i64 m, .bool o]) H := fun H => ⟨fun _ => by
                    have := (number_t (n0 := n0) (w0 := w0) (gl := gl) (H := H) (z.drop j)).call (by omega)
                    rw [hmo] at this
                    exact this⟩
                  by_cases hj3 : 1 < z.length - j
                  · exfalso; omega
                  · have hh := And.intro hdl hd0
                    repeat' (first | refine go ?_ | (refine br (fun hc => ?_) (fun hc => ?_) <;> try (exfalso; omega)) | fail)
                    all_goals exact .junkd ⟨rfl, rfl⟩
              | some z =>
                have hzl := skipR_len hz
                simp only
                have hc2 : ∀ H, Ctr (env n0 w0 gl) 70 [.str y, .str [32, 115, 105, 122, 101, 61]] H True (.tup [.str z, .bool true]) H := fun H => ⟨fun _ => by
                  have := (cut23_t (n0 := n0) (w0 := w0) (gl := gl) (H := H) [32, 115, 105, 122, 101, 61] y).call ⟨by omega, by decide⟩
                  rw [skip_same _ _ (by decide)] at this
                  rw [show ([32, 115, 105, 122, 101, 61] : List UInt8).map upB = [32, 83, 73, 90, 69, 61] by decide +kernel, hz] at this
                  exact this⟩
                by_cases hz18 : z ≠ [] ∧ z.length ≤ 18
                · obtain ⟨hz0, hz18⟩ := hz18
                  have hzl0 : z.length ≠ 0 := fun h => hz0 (List.length_eq_zero_iff.1 h)
                  have hz1i : 1 ≤ (z.length : Int) := by omega
                  have hz18i : (z.length : Int) ≤ 18 := by omega
                  by_cases hdig : Digs z
                  · rw [tf_true ⟨hz0, hz18, hdig⟩]
                    simp only [Option.isSome_some, Option.getD_some, if_true]
                    have hh := And.intro hf (And.intro hvs (And.intro hy0 (And.intro hyl0 (And.intro hz1i hz18i))))
                    repeat' (first | refine go ?_ | (refine br (fun hc => ?_) (fun hc => ?_) <;> try (exfalso; omega)) | fail)
                    refine loop0 (fun i : Nat => (.top :: .top :: .ref H.length 0 :: .top :: .top :: .top :: .top :: .top :: .top :: .ref (H.length + 1) 0 :: .bool true :: .top :: .top :: .top :: .top :: .top :: .str (z.drop i) :: .top :: .top :: .top :: .top :: .top :: .top :: .top :: .top :: .top :: .top :: .top :: .top :: .top :: .top :: .top :: .top :: .top :: .top :: .top :: .top :: .top :: .top :: .top :: .top :: .top :: .top :: .top :: .top :: .top :: .top :: .top :: .top :: .top :: .top :: .top :: .top :: .top :: .top :: .top :: .top :: .top :: .top :: .top :: .top :: .top :: .top :: .top :: .top :: .top :: .top :: .top :: .top :: .top :: .top :: .top :: .top :: .top :: .top :: .top :: .top :: .top :: .top :: .top :: .top :: .top :: .top :: .top :: .top :: .top :: .top :: .top :: .top :: .top :: .top :: .top :: .top :: .top :: .top :: .top :: .top :: .top :: .top :: .top :: .top :: .top :: .top :: .top :: .top :: .top :: .top :: .top :: .top :: .top :: .top :: .top :: .top :: .top :: .top :: .top :: .top :: .top :: .top :: .top :: .top :: .top :: .top :: .top :: .top :: .top :: .top :: .top :: .top :: .top :: .top :: .top :: .top :: .top :: .top :: .top :: .top :: .top :: .top :: .top :: .top :: .top :: .top :: .top :: .top :: .top :: .top :: .top :: .top :: .top :: .top :: .top :: .top :: .top :: .top :: .top :: .top :: .top :: .top :: .top :: .top :: .top :: .top :: .top :: .top :: .top :: .top :: .top :: .top :: .top :: .top :: .top :: .top :: .top :: .top :: .top :: .top :: [])) (fun i => i ≤ z.length ∧ (z = [] ∨ i < z.length) ∧ (∀ k, k < i → (z.getD k 0).toNat = 48)) (fun i => z.length - i) 0 ⟨Nat.zero_le _, by by_cases h : z = []; exact .inl h; exact .inr (List.length_pos_iff.2 h), fun k h => absurd h (Nat.not_lt_zero _)⟩ ?_
                    rintro j ⟨hj, hj2, hj48⟩
                    have hdl : (z.drop j).length = z.length - j := List.length_drop
                    have hd0 : (z.drop j).getD 0 0 = z.getD j 0 := drop_get z j 0
                    have hdd : List.drop 1 (List.drop j z) = List.drop (j + 1) z := by rw [List.drop_drop]
                    have hj256 := (z.getD j 0).toNat_lt
                    have hlen0 : z = [] → z.length = 0 := fun h => by rw [h]; rfl
                    by_cases hjn : 1 < z.length - j ∧ (z.getD j 0).toNat = 48
                    · obtain ⟨hj3, hj4⟩ := hjn
                      · have hdt : List.take (z.length - j) (List.drop j z) = List.drop j z := List.take_of_length_le (by omega)
                        have hh := And.intro hdl (And.intro hd0 (And.intro hdd (And.intro hdt hj4)))
                        repeat' (first | refine go ?_ | (refine br (fun hc => ?_) (fun hc => ?_) <;> try (exfalso; omega)) | fail)
                        refine again (j + 1) ⟨by omega, .inr (by omega), fun k hk => ?_⟩ (by omega)
                        rcases Nat.lt_succ_iff_lt_or_eq.1 hk with h | h
                        · exact hj48 k h
                        · subst h; exact hj4
                    · have hN : ∀ H, Ctr (env n0 w0 gl) 72 [.str (List.drop j z)] H True (.tup [.int .i64 (decVal z), .bool true]) H := fun H => ⟨fun _ => by
                        have := (number_t (n0 := n0) (w0 := w0) (gl := gl) (H := H) (z.drop j)).call (by omega)
                        rw [strip_good hdig hz18 hj48 (hj2.resolve_left hz0) (fun h1 h2 => hjn ⟨h1, h2⟩)] at this
                        exact this⟩
                      by_cases hj3 : 1 < z.length - j
                      · have hj4 : ¬ (z.getD j 0).toNat = 48 := fun h => hjn ⟨hj3, h⟩
                        have hh := And.intro hdl (And.intro hd0 hj4)
                        repeat' (first | refine go ?_ | (refine br (fun hc => ?_) (fun hc => ?_) <;> try (exfalso; omega)) | fail)
                        all_goals exact .junkd ⟨rfl, rfl⟩
                      · have hh := And.intro hdl hd0
                        repeat' (first | refine go ?_ | (refine br (fun hc => ?_) (fun hc => ?_) <;> try (exfalso; omega)) | fail)
                        all_goals exact .junkd ⟨rfl, rfl⟩
                  · rw [tf_false fun h => hdig h.2.2]
                    simp only [Option.isSome_none, Bool.false_eq_true, if_false]
                    have hh := And.intro hf (And.intro hvs (And.intro hy0 (And.intro hyl0 (And.intro hz1i hz18i))))
                    repeat' (first | refine go ?_ | (refine br (fun hc => ?_) (fun hc => ?_) <;> try (exfalso; omega)) | fail)
                    refine loop0 (fun i : Nat => (.top :: .top :: .ref H.length 0 :: .top :: .top :: .top :: .top :: .top :: .top :: .ref (H.length + 1) 0 :: .bool true :: .top :: .top :: .top :: .top :: .top :: .str (z.drop i) :: .top :: .top :: .top :: .top :: .top :: .top :: .top :: .top :: .top :: .top :: .top :: .top :: .top :: .top :: .top :: .top :: .top :: .top :: .top :: .top :: .top :: .top :: .top :: .top :: .top :: .top :: .top :: .top :: .top :: .top :: .top :: .top :: .top :: .top :: .top :: .top :: .top :: .top :: .top :: .top :: .top :: .top :: .top :: .top :: .top :: .top :: .top :: .top :: .top :: .top :: .top :: .top :: .top :: .top :: .top :: .top :: .top :: .top :: .top :: .top :: .top :: .top :: .top :: .top :: .top :: .top :: .top :: .top :: .top :: .top :: .top :: .top :: .top :: .top :: .top :: .top :: .top :: .top :: .top :: .top :: .top :: .top :: .top :: .top :: .top :: .top :: .top :: .top :: .top :: .top :: .top :: .top :: .top :: .top :: .top :: .top :: .top :: .top :: .top :: .top :: .top :: .top :: .top :: .top :: .top :: .top :: .top :: .top :: .top :: .top :: .top :: .top :: .top :: .top :: .top :: .top :: .top :: .top :: .top :: .top :: .top :: .top :: .top :: .top :: .top :: .top :: .top :: .top :: .top :: .top :: .top :: .top :: .top :: .top :: .top :: .top :: .top :: .top :: .top :: .top :: .top :: .top :: .top :: .top :: .top :: .top :: .top :: .top :: .top :: .top :: .top :: .top :: .top :: .top :: .top :: .top :: .top :: .top :: .top :: .top :: [])) (fun i => i ≤ z.length ∧ (z = [] ∨ i < z.length) ∧ (∀ k, k < i → (z.getD k 0).toNat = 48)) (fun i => z.length - i) 0 ⟨Nat.zero_le _, by by_cases h : z = []; exact .inl h; exact .inr (List.length_pos_iff.2 h), fun k h => absurd h (Nat.not_lt_zero _)⟩ ?_
                    rintro j ⟨hj, hj2, hj48⟩
                    have hdl : (z.drop j).length = z.length - j := List.length_drop
                    have hd0 : (z.drop j).getD 0 0 = z.getD j 0 := drop_get z j 0
                    have hdd : List.drop 1 (List.drop j z) = List.drop (j + 1) z := by rw [List.drop_drop]
                    have hj256 := (z.getD j 0).toNat_lt
                    have hlen0 : z = [] → z.length = 0 := fun h => by rw [h]; rfl
                    by_cases hjn : 1 < z.length - j ∧ (z.getD j 0).toNat = 48
                    · obtain ⟨hj3, hj4⟩ := hjn
                      · have hdt : List.take (z.length - j) (List.drop j z) = List.drop j z := List.take_of_length_le (by omega)
                        have hh := And.intro hdl (And.intro hd0 (And.intro hdd (And.intro hdt hj4)))
                        repeat' (first | refine go ?_ | (refine br (fun hc => ?_) (fun hc => ?_) <;> try (exfalso; omega)) | fail)
                        refine again (j + 1) ⟨by omega, .inr (by omega), fun k hk => ?_⟩ (by omega)
                        rcases Nat.lt_succ_iff_lt_or_eq.1 hk with h | h
                        · exact hj48 k h
                        · subst h; exact hj4
                    · have hN : ∀ H, Ctr (env n0 w0 gl) 72 [.str (List.drop j z)] H True (.tup [.int .i64 0, .bool false]) H := fun H => ⟨fun _ => by
                        have := (number_t (n0 := n0) (w0 := w0) (gl := gl) (H := H) (z.drop j)).call (by omega)
                        rw [strip_bad hdig hj48] at this
                        exact this⟩
                      by_cases hj3 : 1 < z.length - j
                      · have hj4 : ¬ (z.getD j 0).toNat = 48 := fun h => hjn ⟨hj3, h⟩
                        have hh := And.intro hdl (And.intro hd0 hj4)
                        repeat' (first | refine go ?_ | (refine br (fun hc => ?_) (fun hc => ?_) <;> try (exfalso; omega)) | fail)
                        all_goals exact .junkd ⟨rfl, rfl⟩
                      · have hh := And.intro hdl hd0
                        repeat' (first | refine go ?_ | (refine br (fun hc => ?_) (fun hc => ?_) <;> try (exfalso; omega)) | fail)
                        all_goals exact .junkd ⟨rfl, rfl⟩
                · rw [tf_false fun h => hz18 ⟨h.1, h.2.1⟩]
                  simp only [Option.isSome_none, Bool.false_eq_true, if_false]
                  have hz19 : z.length = 0 ∨ 18 < z.length := by
                    by_cases h : z = []
                    · left; rw [h]; rfl
                    · right; have : ¬ z.length ≤ 18 := fun h2 => hz18 ⟨h, h2⟩
                      omega
                  rcases hz19 with hz19 | hz19
                  · have hz1i : ¬ 1 ≤ (z.length : Int) := by omega
                    have hh := And.intro hf (And.intro hvs (And.intro hy0 (And.intro hyl0 hz1i)))
                    repeat' (first | refine go ?_ | (refine br (fun hc => ?_) (fun hc => ?_) <;> try (exfalso; omega)) | fail)
                    refine loop0 (fun i : Nat => (.top :: .top :: .ref H.length 0 :: .top :: .top :: .top :: .top :: .top :: .top :: .ref (H.length + 1) 0 :: .bool false :: .top :: .top :: .top :: .top :: .top :: .str (z.drop i) :: .top :: .top :: .top :: .top :: .top :: .top :: .top :: .top :: .top :: .top :: .top :: .top :: .top :: .top :: .top :: .top :: .top :: .top :: .top :: .top :: .top :: .top :: .top :: .top :: .top :: .top :: .top :: .top :: .top :: .top :: .top :: .top :: .top :: .top :: .top :: .top :: .top :: .top :: .top :: .top :: .top :: .top :: .top :: .top :: .top :: .top :: .top :: .top :: .top :: .top :: .top :: .top :: .top :: .top :: .top :: .top :: .top :: .top :: .top :: .top :: .top :: .top :: .top :: .top :: .top :: .top :: .top :: .top :: .top :: .top :: .top :: .top :: .top :: .top :: .top :: .top :: .top :: .top :: .top :: .top :: .top :: .top :: .top :: .top :: .top :: .top :: .top :: .top :: .top :: .top :: .top :: .top :: .top :: .top :: .top :: .top :: .top :: .top :: .top :: .top :: .top :: .top :: .top :: .top :: .top :: .top :: .top :: .top :: .top :: .top :: .top :: .top :: .top :: .top :: .top :: .top :: .top :: .top :: .top :: .top :: .top :: .top :: .top :: .top :: .top :: .top :: .top :: .top :: .top :: .top :: .top :: .top :: .top :: .top :: .top :: .top :: .top :: .top :: .top :: .top :: .top :: .top :: .top :: .top :: .top :: .top :: .top :: .top :: .top :: .top :: .top :: .top :: .top :: .top :: .top :: .top :: .top :: .top :: .top :: .top :: [])) (fun i => i ≤ z.length ∧ (z = [] ∨ i < z.length) ∧ (∀ k, k < i → (z.getD k 0).toNat = 48)) (fun i => z.length - i) 0 ⟨Nat.zero_le _, by by_cases h : z = []; exact .inl h; exact .inr (List.length_pos_iff.2 h), fun k h => absurd h (Nat.not_lt_zero _)⟩ ?_
                    rintro j ⟨hj, hj2, hj48⟩
                    have hdl : (z.drop j).length = z.length - j := List.length_drop
                    have hd0 : (z.drop j).getD 0 0 = z.getD j 0 := drop_get z j 0
                    have hdd : List.drop 1 (List.drop j z) = List.drop (j + 1) z := by rw [List.drop_drop]
                    have hj256 := (z.getD j 0).toNat_lt
                    have hlen0 : z = [] → z.length = 0 := fun h => by rw [h]; rfl
                    by_cases hjn : 1 < z.length - j ∧ (z.getD j 0).toNat = 48
                    · obtain ⟨hj3, hj4⟩ := hjn
                      exfalso; omega
                    · obtain ⟨m, o, hmo⟩ := numV_form (z.drop j)
                      have hN : ∀ H, Ctr (env n0 w0 gl) 72 [.str (List.drop j z)] H True (.tup [.int .i64 m, .bool o]) H := fun H => ⟨fun _ => by
                        have := (number_t (n0 := n0) (w0 := w0) (gl := gl) (H := H) (z.drop j)).call (by omega)
                        rw [hmo] at this
                        exact this⟩
                      by_cases hj3 : 1 < z.length - j
                      · exfalso; omega
                      · have hh := And.intro hdl hd0
                        repeat' (first | refine go ?_ | (refine br (fun hc => ?_) (fun hc => ?_) <;> try (exfalso; omega)) | fail)
                        all_goals exact .junkd ⟨rfl, rfl⟩
                  · have hz1i : 1 ≤ (z.length : Int) := by omega
                    have hz18i : ¬ (z.length : Int) ≤ 18 := by omega
                    have hh := And.intro hf (And.intro hvs (And.intro hy0 (And.intro hyl0 (And.intro hz1i hz18i))))
                    repeat' (first | refine go ?_ | (refine br (fun hc => ?_) (fun hc => ?_) <;> try (exfalso; omega)) | fail)
                    refine loop0 (fun i : Nat => (.top :: .top :: .ref H.length 0 :: .top :: .top :: .top :: .top :: .top :: .top :: .ref (H.length + 1) 0 :: .bool false :: .top :: .top :: .top :: .top :: .top :: .str (z.drop i) :: .top :: .top :: .top :: .top :: .top :: .top :: .top :: .top :: .top :: .top :: .top :: .top :: .top :: .top :: .top :: .top :: .top :: .top :: .top :: .top :: .top :: .top :: .top :: .top :: .top :: .top :: .top :: .top :: .top :: .top :: .top :: .top :: .top :: .top :: .top :: .top :: .top :: .top :: .top :: .top :: .top :: .top :: .top :: .top :: .top :: .top :: .top :: .top :: .top :: .top :: .top :: .top :: .top :: .top :: .top :: .top :: .top :: .top :: .top :: .top :: .top :: .top :: .top :: .top :: .top :: .top :: .top :: .top :: .top :: .top :: .top :: .top :: .top :: .top :: .top :: .top :: .top :: .top :: .top :: .top :: .top :: .top :: .top :: .top :: .top :: .top :: .top :: .top :: .top :: .top :: .top :: .top :: .top :: .top :: .top :: .top :: .top :: .top :: .top :: .top :: .top :: .top :: .top :: .top :: .top :: .top :: .top :: .top :: .top :: .top :: .top :: .top :: .top :: .top :: .top :: .top :: .top :: .top :: .top :: .top :: .top :: .top :: .top :: .top :: .top :: .top :: .top :: .top :: .top :: .top :: .top :: .top :: .top :: .top :: .top :: .top :: .top :: .top :: .top :: .top :: .top :: .top :: .top :: .top :: .top :: .top :: .top :: .top :: .top :: .top :: .top :: .top :: .top :: .top :: .top :: .top :: .top :: .top :: .top :: .top :: [])) (fun i => i ≤ z.length ∧ (z = [] ∨ i < z.length) ∧ (∀ k, k < i → (z.getD k 0).toNat = 48)) (fun i => z.length - i) 0 ⟨Nat.zero_le _, by by_cases h : z = []; exact .inl h; exact .inr (List.length_pos_iff.2 h), fun k h => absurd h (Nat.not_lt_zero _)⟩ ?_
                    rintro j ⟨hj, hj2, hj48⟩
                    have hdl : (z.drop j).length = z.length - j := List.length_drop
                    have hd0 : (z.drop j).getD 0 0 = z.getD j 0 := drop_get z j 0
                    have hdd : List.drop 1 (List.drop j z) = List.drop (j + 1) z := by rw [List.drop_drop]
                    have hj256 := (z.getD j 0).toNat_lt
                    have hlen0 : z = [] → z.length = 0 := fun h => by rw [h]; rfl
                    by_cases hjn : 1 < z.length - j ∧ (z.getD j 0).toNat = 48
                    · obtain ⟨hj3, hj4⟩ := hjn
                      · have hdt : List.take (z.length - j) (List.drop j z) = List.drop j z := List.take_of_length_le (by omega)
                        have hh := And.intro hdl (And.intro hd0 (And.intro hdd (And.intro hdt hj4)))
                        repeat' (first | refine go ?_ | (refine br (fun hc => ?_) (fun hc => ?_) <;> try (exfalso; omega)) | fail)
                        refine again (j + 1) ⟨by omega, .inr (by omega), fun k hk => ?_⟩ (by omega)
                        rcases Nat.lt_succ_iff_lt_or_eq.1 hk with h | h
                        · exact hj48 k h
                        · subst h; exact hj4
                    · obtain ⟨m, o, hmo⟩ := numV_form (z.drop j)
                      have hN : ∀ H, Ctr (env n0 w0 gl) 72 [.str (List.drop j z)] H True (.tup [.int .i64 m, .bool o]) H := fun H => ⟨fun _ => by
                        have := (number_t (n0 := n0) (w0 := w0) (gl := gl) (H := H) (z.drop j)).call (by omega)
                        rw [hmo] at this
                        exact this⟩
                      by_cases hj3 : 1 < z.length - j
                      · have hj4 : ¬ (z.getD j 0).toNat = 48 := fun h => hjn ⟨hj3, h⟩
                        have hh := And.intro hdl (And.intro hd0 hj4)
                        repeat' (first | refine go ?_ | (refine br (fun hc => ?_) (fun hc => ?_) <;> try (exfalso; omega)) | fail)
                        all_goals exact .junkd ⟨rfl, rfl⟩
                      · have hh := And.intro hdl hd0
                        repeat' (first | refine go ?_ | (refine br (fun hc => ?_) (fun hc => ?_) <;> try (exfalso; omega)) | fail)
                        all_goals exact .junkd ⟨rfl, rfl⟩
      · have hh := And.intro hrow hcc
        repeat' (first | refine go ?_ | (refine br (fun hc => ?_) (fun hc => ?_) <;> try (exfalso; omega)) | fail)
        refine again (i + 1) ⟨by omega, fun k hk => ?_⟩ (by omega)
        rcases Nat.lt_succ_iff_lt_or_eq.1 hk with h | h
        · exact hall k h
        · subst h; intro h; rw [h] at hcc; exact hcc rfl
    · obtain rfl : i = b.length := by omega
      have hcb : cutB b = (b, []) := by unfold cutB; rw [cut_never hall]
      rw [hcb] at hvv ⊢
      simp only at hvv ⊢
      have hvs : verbL (b.map lowB) = 3 := by rw [← verb_same]; exact hvv
      simp only [hvv, Int.reduceEq, reduceIte]
      simp only [fillB, fillT, fillN, Int.reduceEq, reduceIte, or_true, true_or, or_false, false_or, or_self]
      have hx : skipR [70, 82, 79, 77, 58] [] = none := by decide +kernel
      unfold apR
      rw [hx]
      simp only [Option.bind_none, Bool.false_eq_true, if_false]
      have hc1 : ∀ H, Ctr (env n0 w0 gl) 70 [.str [], .str [102, 114, 111, 109, 58]] H True (.tup [.str [], .bool false]) H := fun H => ⟨fun _ => by
        have := (cut23_t (n0 := n0) (w0 := w0) (gl := gl) (H := H) [102, 114, 111, 109, 58] []).call ⟨by simp, by decide⟩
        rw [skip_same _ _ (by decide)] at this
        rw [show ([102, 114, 111, 109, 58] : List UInt8).map upB = [70, 82, 79, 77, 58] by decide +kernel, hx] at this
        exact this⟩
      have hp : ∀ H, Ctr (env n0 w0 gl) 71 [.str []] H True (.tup [.str [], .str [], .bool false]) H := fun H => ⟨fun _ => by
        have := (refParse_t (n0 := n0) (w0 := w0) (gl := gl) (H := H) []).call (by first | omega | simp)
        unfold pathV at this
        rw [path_nil] at this
        exact this⟩
      have hh := And.intro hvs hvs
      repeat' (first | refine go ?_ | (refine br (fun hc => ?_) (fun hc => ?_) <;> try (exfalso; omega)) | fail)
      all_goals exact .junkd ⟨rfl, rfl⟩

end Go.Ab.Tryz

end

section
set_option linter.unusedSimpArgs false
set_option linter.unusedVariables false
set_option maxHeartbeats 40000000
set_option maxRecDepth 4000
namespace Go.Ab.Tryz
open Go Go.Ab Go.Proofs
attribute [local irreducible] W Wl Wop TrA WSeq WLoopS FPost DPost RPost WRound DK onEnd
variable {n0 : Nat} {w0 : World} {gl : Nat → List AV} {H : List AO}
attribute [local simp] belowL_bytesAV

theorem cmdRef_v4 (b : List UInt8) (tok : Tok) (hcl : b.length ≤ 510 ∧ Clean b) (hvv : verbU ((cutB b).1.map upB) = 4) : AEnter (env n0 w0 gl) 57 [.sl b.length (bytesAV b) tok] H (fun y H' => y = .ret (cmdV (cmdP b)) ∧ H' = H) := by
  have hl := hcl.1
  refine enter (md := fun _ => 0) Tryz.func57 (fun hfit hgl => ?_)
  repeat' (first | refine go ?_ | (refine br (fun hc => ?_) (fun hc => ?_) <;> try (exfalso; omega)) | fail)
  refine loop0 (fun i : Nat => (.sl b.length (bytesAV b) tok :: .top :: .ref H.length 0 :: .top :: .top :: .top :: .top :: .top :: .top :: .top :: .top :: .top :: .top :: .top :: .top :: .top :: .top :: .top :: .top :: .top :: .top :: .top :: .top :: .top :: .top :: .top :: .top :: .top :: .top :: .sl b.length (bytesAV b) tok :: .int .i64 b.length :: .int .i64 (i : Int) :: .top :: .top :: .top :: .top :: .top :: .top :: .top :: .top :: .top :: .top :: .top :: .top :: .top :: .top :: .top :: .top :: .top :: .top :: .top :: .top :: .top :: .top :: .top :: .top :: .top :: .top :: .top :: .top :: .top :: .top :: .top :: .top :: .top :: .top :: .top :: .top :: .top :: .top :: .top :: .top :: .top :: .top :: .top :: .top :: .top :: .top :: .top :: .top :: .top :: .top :: .top :: .top :: .top :: .top :: .top :: .top :: .top :: .top :: .top :: .top :: .top :: .top :: .top :: .top :: .top :: .top :: .top :: .top :: .top :: .top :: .top :: .top :: .top :: .top :: .top :: .top :: .top :: .top :: .top :: .top :: .top :: .top :: .top :: .top :: .top :: .top :: .top :: .top :: .top :: .top :: .top :: .top :: .top :: .top :: .top :: .top :: .top :: .top :: .top :: .top :: .top :: .top :: .top :: .top :: .top :: .top :: .top :: .top :: .top :: .top :: .top :: .top :: .top :: .top :: .top :: .top :: .top :: .top :: .top :: .top :: .top :: .top :: .top :: .top :: .top :: .top :: .top :: .top :: .top :: .top :: .top :: .top :: .top :: .top :: .top :: .top :: .top :: .top :: .top :: .top :: .top :: .top :: .top :: .top :: .top :: [])) (fun i => i ≤ b.length) (fun i => b.length - i) 0 (Nat.zero_le _) ?_
  intro i hi
  by_cases hlt : i < b.length
  · have hc256 := (b.getD i 0).toNat_lt
    have hh := row_cmd hlt
    have hcc := hcl.2 i hlt
    repeat' (first | refine go ?_ | (refine br (fun hc => ?_) (fun hc => ?_) <;> try (exfalso; omega)) | fail)
    exact again (i + 1) (by omega) (by omega)
  · obtain rfl : i = b.length := by omega
    clear hlt hi
    repeat' (first | refine go ?_ | (refine br (fun hc => ?_) (fun hc => ?_) <;> try (exfalso; omega)) | fail)
    refine loop0 (fun i : Nat => (.sl b.length (bytesAV b) tok :: .top :: .ref H.length 0 :: .top :: .top :: .top :: .str b :: .str [] :: .top :: .top :: .top :: .top :: .top :: .top :: .top :: .top :: .top :: .top :: .top :: .top :: .top :: .top :: .top :: .top :: .top :: .top :: .top :: .top :: .top :: .top :: .top :: .top :: .top :: .top :: .top :: .top :: .top :: .top :: .top :: .top :: .top :: .top :: .top :: .top :: .top :: .sl b.length (bytesAV b) tok :: .int .i64 b.length :: .int .i64 (i : Int) :: .top :: .top :: .top :: .top :: .top :: .top :: .top :: .top :: .top :: .top :: .top :: .top :: .top :: .top :: .top :: .top :: .top :: .top :: .top :: .top :: .top :: .top :: .top :: .top :: .top :: .top :: .top :: .top :: .top :: .top :: .top :: .top :: .top :: .top :: .top :: .top :: .top :: .top :: .top :: .top :: .top :: .top :: .top :: .top :: .top :: .top :: .top :: .top :: .top :: .top :: .top :: .top :: .top :: .top :: .top :: .top :: .top :: .top :: .top :: .top :: .top :: .top :: .top :: .top :: .top :: .top :: .top :: .top :: .top :: .top :: .top :: .top :: .top :: .top :: .top :: .top :: .top :: .top :: .top :: .top :: .top :: .top :: .top :: .top :: .top :: .top :: .top :: .top :: .top :: .top :: .top :: .top :: .top :: .top :: .top :: .top :: .top :: .top :: .top :: .top :: .top :: .top :: .top :: .top :: .top :: .top :: .top :: .top :: .top :: .top :: .top :: .top :: .top :: .top :: .top :: .top :: .top :: .top :: .top :: .top :: .top :: .top :: .top :: .top :: .top :: .top :: .top :: .top :: .top :: [])) (fun i => i ≤ b.length ∧ (∀ k, k < i → b.getD k 0 ≠ 32)) (fun i => b.length - i) 0 ⟨Nat.zero_le _, fun k h => absurd h (Nat.not_lt_zero _)⟩ ?_
    rintro i ⟨hi, hall⟩
    unfold cmdP
    rw [tf_true hcl]
    try simp only [if_true]
    by_cases hlt : i < b.length
    · have hc256 := (b.getD i 0).toNat_lt
      have hrow := row_cmd hlt
      by_cases hcc : (b.getD i 0).toNat = 32
      · have hcb : cutB b = (b.take i, b.drop (i + 1)) := by unfold cutB; rw [cut_first hlt hall (UInt8.toNat_inj.1 hcc)]
        have hwl : (b.take i).length ≤ 510 := by rw [List.length_take]; omega
        have hrl : (b.drop (i + 1)).length ≤ 510 := by rw [List.length_drop]; omega
        generalize hw : b.take i = w at *
        generalize hr : b.drop (i + 1) = r at *
        have hf := And.intro hrow (And.intro hcc (And.intro hw hr))
        rw [hcb] at hvv ⊢
        simp only at hvv ⊢
        have hvs : verbL (w.map lowB) = 4 := by rw [← verb_same]; exact hvv
        simp only [hvv, Int.reduceEq, reduceIte]
        simp only [fillB, fillT, fillN, Int.reduceEq, reduceIte, or_true, true_or, or_false, false_or, or_self]
        unfold apR
        cases hx : skipR [84, 79, 58] r with
        | none =>
          simp only [Option.bind_none, Bool.false_eq_true, if_false]
          have hc1 : ∀ H, Ctr (env n0 w0 gl) 70 [.str r, .str [116, 111, 58]] H True (.tup [.str [], .bool false]) H := fun H => ⟨fun _ => by
            have := (cut23_t (n0 := n0) (w0 := w0) (gl := gl) (H := H) [116, 111, 58] r).call ⟨by omega, by decide⟩
            rw [skip_same _ _ (by decide)] at this
            rw [show ([116, 111, 58] : List UInt8).map upB = [84, 79, 58] by decide +kernel, hx] at this
            exact this⟩
          have hp : ∀ H, Ctr (env n0 w0 gl) 71 [.str []] H True (.tup [.str [], .str [], .bool false]) H := fun H => ⟨fun _ => by
            have := (refParse_t (n0 := n0) (w0 := w0) (gl := gl) (H := H) []).call (by first | omega | simp)
            unfold pathV at this
            rw [path_nil] at this
            exact this⟩
          have hh := And.intro hf hvs
          repeat' (first | refine go ?_ | (refine br (fun hc => ?_) (fun hc => ?_) <;> try (exfalso; omega)) | fail)
          all_goals exact .junkd ⟨rfl, rfl⟩
        | some x =>
          have hxl := skipR_len hx
          simp only [Option.bind_some]
          have hc1 : ∀ H, Ctr (env n0 w0 gl) 70 [.str r, .str [116, 111, 58]] H True (.tup [.str x, .bool true]) H := fun H => ⟨fun _ => by
            have := (cut23_t (n0 := n0) (w0 := w0) (gl := gl) (H := H) [116, 111, 58] r).call ⟨by omega, by decide⟩
            rw [skip_same _ _ (by decide)] at this
            rw [show ([116, 111, 58] : List UInt8).map upB = [84, 79, 58] by decide +kernel, hx] at this
            exact this⟩
          cases hq : pathR x with
          | none =>
            try simp only [Bool.false_eq_true, if_false]
            have hp : ∀ H, Ctr (env n0 w0 gl) 71 [.str x] H True (.tup [.str [], .str x, .bool false]) H := fun H => ⟨fun _ => by
              have := (refParse_t (n0 := n0) (w0 := w0) (gl := gl) (H := H) x).call (by first | omega | simp)
              unfold pathV at this
              rw [hq] at this
              exact this⟩
            have hh := And.intro hf hvs
            repeat' (first | refine go ?_ | (refine br (fun hc => ?_) (fun hc => ?_) <;> try (exfalso; omega)) | fail)
            all_goals exact .junkd ⟨rfl, rfl⟩
          | some q =>
            obtain ⟨a, y⟩ := q
            have hal := path_len hq
            simp only
            have hp : ∀ H, Ctr (env n0 w0 gl) 71 [.str x] H True (.tup [.str a, .str y, .bool true]) H := fun H => ⟨fun _ => by
              have := (refParse_t (n0 := n0) (w0 := w0) (gl := gl) (H := H) x).call (by first | omega | simp)
              unfold pathV at this
              rw [hq] at this
              exact this⟩
            by_cases ha0 : a = []
            · subst ha0
              simp only [ne_eq, not_true_eq_false, decide_false, Bool.false_and, Bool.false_eq_true, if_false]
              have hh := And.intro hf hvs
              repeat' (first | refine go ?_ | (refine br (fun hc => ?_) (fun hc => ?_) <;> try (exfalso; omega)) | fail)
              all_goals exact .junkd ⟨rfl, rfl⟩
            · have hal0 : a.length ≠ 0 := fun h => ha0 (List.length_eq_zero_iff.1 h)
              by_cases hy0 : y = []
              · subst hy0
                simp only [ne_eq, ha0, not_false_eq_true, decide_true, Bool.and_self, if_true]
                have hh := And.intro hf (And.intro hvs (And.intro ha0 hal0))
                repeat' (first | refine go ?_ | (refine br (fun hc => ?_) (fun hc => ?_) <;> try (exfalso; omega)) | fail)
                all_goals exact .junkd ⟨rfl, rfl⟩
              · have hyl0 : y.length ≠ 0 := fun h => hy0 (List.length_eq_zero_iff.1 h)
                simp only [hy0, decide_false, Bool.and_false, Bool.false_eq_true, if_false]
                have hh := And.intro hf (And.intro hvs (And.intro ha0 (And.intro hal0 (And.intro hy0 hyl0))))
                repeat' (first | refine go ?_ | (refine br (fun hc => ?_) (fun hc => ?_) <;> try (exfalso; omega)) | fail)
                all_goals exact .junkd ⟨rfl, rfl⟩
      · have hh := And.intro hrow hcc
        repeat' (first | refine go ?_ | (refine br (fun hc => ?_) (fun hc => ?_) <;> try (exfalso; omega)) | fail)
        refine again (i + 1) ⟨by omega, fun k hk => ?_⟩ (by omega)
        rcases Nat.lt_succ_iff_lt_or_eq.1 hk with h | h
        · exact hall k h
        · subst h; intro h; rw [h] at hcc; exact hcc rfl
    · obtain rfl : i = b.length := by omega
      have hcb : cutB b = (b, []) := by unfold cutB; rw [cut_never hall]
      rw [hcb] at hvv ⊢
      simp only at hvv ⊢
      have hvs : verbL (b.map lowB) = 4 := by rw [← verb_same]; exact hvv
      simp only [hvv, Int.reduceEq, reduceIte]
      simp only [fillB, fillT, fillN, Int.reduceEq, reduceIte, or_true, true_or, or_false, false_or, or_self]
      have hx : skipR [84, 79, 58] [] = none := by decide +kernel
      unfold apR
      rw [hx]
      simp only [Option.bind_none, Bool.false_eq_true, if_false]
      have hc1 : ∀ H, Ctr (env n0 w0 gl) 70 [.str [], .str [116, 111, 58]] H True (.tup [.str [], .bool false]) H := fun H => ⟨fun _ => by
        have := (cut23_t (n0 := n0) (w0 := w0) (gl := gl) (H := H) [116, 111, 58] []).call ⟨by simp, by decide⟩
        rw [skip_same _ _ (by decide)] at this
        rw [show ([116, 111, 58] : List UInt8).map upB = [84, 79, 58] by decide +kernel, hx] at this
        exact this⟩
      have hp : ∀ H, Ctr (env n0 w0 gl) 71 [.str []] H True (.tup [.str [], .str [], .bool false]) H := fun H => ⟨fun _ => by
        have := (refParse_t (n0 := n0) (w0 := w0) (gl := gl) (H := H) []).call (by first | omega | simp)
        unfold pathV at this
        rw [path_nil] at this
        exact this⟩
      have hh := And.intro hvs hvs
      repeat' (first | refine go ?_ | (refine br (fun hc => ?_) (fun hc => ?_) <;> try (exfalso; omega)) | fail)
      all_goals exact .junkd ⟨rfl, rfl⟩

theorem cmdRef_v5 (b : List UInt8) (tok : Tok) (hcl : b.length ≤ 510 ∧ Clean b) (hvv : verbU ((cutB b).1.map upB) = 5) : AEnter (env n0 w0 gl) 57 [.sl b.length (bytesAV b) tok] H (fun y H' => y = .ret (cmdV (cmdP b)) ∧ H' = H) := by
  have hl := hcl.1
  refine enter (md := fun _ => 0) Tryz.func57 (fun hfit hgl => ?_)
  repeat' (first | refine go ?_ | (refine br (fun hc => ?_) (fun hc => ?_) <;> try (exfalso; omega)) | fail)
  refine loop0 (fun i : Nat => (.sl b.length (bytesAV b) tok :: .top :: .ref H.length 0 :: .top :: .top :: .top :: .top :: .top :: .top :: .top :: .top :: .top :: .top :: .top :: .top :: .top :: .top :: .top :: .top :: .top :: .top :: .top :: .top :: .top :: .top :: .top :: .top :: .top :: .top :: .sl b.length (bytesAV b) tok :: .int .i64 b.length :: .int .i64 (i : Int) :: .top :: .top :: .top :: .top :: .top :: .top :: .top :: .top :: .top :: .top :: .top :: .top :: .top :: .top :: .top :: .top :: .top :: .top :: .top :: .top :: .top :: .top :: .top :: .top :: .top :: .top :: .top :: .top :: .top :: .top :: .top :: .top :: .top :: .top :: .top :: .top :: .top :: .top :: .top :: .top :: .top :: .top :: .top :: .top :: .top :: .top :: .top :: .top :: .top :: .top :: .top :: .top :: .top :: .top :: .top :: .top :: .top :: .top :: .top :: .top :: .top :: .top :: .top :: .top :: .top :: .top :: .top :: .top :: .top :: .top :: .top :: .top :: .top :: .top :: .top :: .top :: .top :: .top :: .top :: .top :: .top :: .top :: .top :: .top :: .top :: .top :: .top :: .top :: .top :: .top :: .top :: .top :: .top :: .top :: .top :: .top :: .top :: .top :: .top :: .top :: .top :: .top :: .top :: .top :: .top :: .top :: .top :: .top :: .top :: .top :: .top :: .top :: .top :: .top :: .top :: .top :: .top :: .top :: .top :: .top :: .top :: .top :: .top :: .top :: .top :: .top :: .top :: .top :: .top :: .top :: .top :: .top :: .top :: .top :: .top :: .top :: .top :: .top :: .top :: .top :: .top :: .top :: .top :: .top :: .top :: [])) (fun i => i ≤ b.length) (fun i => b.length - i) 0 (Nat.zero_le _) ?_
  intro i hi
  by_cases hlt : i < b.length
  · have hc256 := (b.getD i 0).toNat_lt
    have hh := row_cmd hlt
    have hcc := hcl.2 i hlt
    repeat' (first | refine go ?_ | (refine br (fun hc => ?_) (fun hc => ?_) <;> try (exfalso; omega)) | fail)
    exact again (i + 1) (by omega) (by omega)
  · obtain rfl : i = b.length := by omega
    clear hlt hi
    repeat' (first | refine go ?_ | (refine br (fun hc => ?_) (fun hc => ?_) <;> try (exfalso; omega)) | fail)
    refine loop0 (fun i : Nat => (.sl b.length (bytesAV b) tok :: .top :: .ref H.length 0 :: .top :: .top :: .top :: .str b :: .str [] :: .top :: .top :: .top :: .top :: .top :: .top :: .top :: .top :: .top :: .top :: .top :: .top :: .top :: .top :: .top :: .top :: .top :: .top :: .top :: .top :: .top :: .top :: .top :: .top :: .top :: .top :: .top :: .top :: .top :: .top :: .top :: .top :: .top :: .top :: .top :: .top :: .top :: .sl b.length (bytesAV b) tok :: .int .i64 b.length :: .int .i64 (i : Int) :: .top :: .top :: .top :: .top :: .top :: .top :: .top :: .top :: .top :: .top :: .top :: .top :: .top :: .top :: .top :: .top :: .top :: .top :: .top :: .top :: .top :: .top :: .top :: .top :: .top :: .top :: .top :: .top :: .top :: .top :: .top :: .top :: .top :: .top :: .top :: .top :: .top :: .top :: .top :: .top :: .top :: .top :: .top :: .top :: .top :: .top :: .top :: .top :: .top :: .top :: .top :: .top :: .top :: .top :: .top :: .top :: .top :: .top :: .top :: .top :: .top :: .top :: .top :: .top :: .top :: .top :: .top :: .top :: .top :: .top :: .top :: .top :: .top :: .top :: .top :: .top :: .top :: .top :: .top :: .top :: .top :: .top :: .top :: .top :: .top :: .top :: .top :: .top :: .top :: .top :: .top :: .top :: .top :: .top :: .top :: .top :: .top :: .top :: .top :: .top :: .top :: .top :: .top :: .top :: .top :: .top :: .top :: .top :: .top :: .top :: .top :: .top :: .top :: .top :: .top :: .top :: .top :: .top :: .top :: .top :: .top :: .top :: .top :: .top :: .top :: .top :: .top :: .top :: .top :: [])) (fun i => i ≤ b.length ∧ (∀ k, k < i → b.getD k 0 ≠ 32)) (fun i => b.length - i) 0 ⟨Nat.zero_le _, fun k h => absurd h (Nat.not_lt_zero _)⟩ ?_
    rintro i ⟨hi, hall⟩
    unfold cmdP
    rw [tf_true hcl]
    try simp only [if_true]
    by_cases hlt : i < b.length
    · have hc256 := (b.getD i 0).toNat_lt
      have hrow := row_cmd hlt
      by_cases hcc : (b.getD i 0).toNat = 32
      · have hcb : cutB b = (b.take i, b.drop (i + 1)) := by unfold cutB; rw [cut_first hlt hall (UInt8.toNat_inj.1 hcc)]
        have hwl : (b.take i).length ≤ 510 := by rw [List.length_take]; omega
        have hrl : (b.drop (i + 1)).length ≤ 510 := by rw [List.length_drop]; omega
        generalize hw : b.take i = w at *
        generalize hr : b.drop (i + 1) = r at *
        have hf := And.intro hrow (And.intro hcc (And.intro hw hr))
        rw [hcb] at hvv ⊢
        simp only at hvv ⊢
        have hvs : verbL (w.map lowB) = 5 := by rw [← verb_same]; exact hvv
        simp only [hvv, Int.reduceEq, reduceIte]
        simp only [fillB, fillT, fillN, Int.reduceEq, reduceIte, or_true, true_or, or_false, false_or, or_self]
        by_cases hr0 : r = []
        · subst hr0
          try simp only [decide_true, if_true]
          have hh := And.intro hf hvs
          repeat' (first | refine go ?_ | (refine br (fun hc => ?_) (fun hc => ?_) <;> try (exfalso; omega)) | fail)
          all_goals exact .junkd ⟨rfl, rfl⟩
        · have hrl0 : r.length ≠ 0 := fun h => hr0 (List.length_eq_zero_iff.1 h)
          simp only [hr0, decide_false, Bool.false_eq_true, if_false]
          have hh := And.intro hf (And.intro hvs (And.intro hr0 hrl0))
          repeat' (first | refine go ?_ | (refine br (fun hc => ?_) (fun hc => ?_) <;> try (exfalso; omega)) | fail)
          all_goals exact .junkd ⟨rfl, rfl⟩
      · have hh := And.intro hrow hcc
        repeat' (first | refine go ?_ | (refine br (fun hc => ?_) (fun hc => ?_) <;> try (exfalso; omega)) | fail)
        refine again (i + 1) ⟨by omega, fun k hk => ?_⟩ (by omega)
        rcases Nat.lt_succ_iff_lt_or_eq.1 hk with h | h
        · exact hall k h
        · subst h; intro h; rw [h] at hcc; exact hcc rfl
    · obtain rfl : i = b.length := by omega
      have hcb : cutB b = (b, []) := by unfold cutB; rw [cut_never hall]
      rw [hcb] at hvv ⊢
      simp only at hvv ⊢
      have hvs : verbL (b.map lowB) = 5 := by rw [← verb_same]; exact hvv
      simp only [hvv, Int.reduceEq, reduceIte]
      simp only [fillB, fillT, fillN, Int.reduceEq, reduceIte, or_true, true_or, or_false, false_or, or_self]
      try simp only [decide_true, if_true]
      have hh := And.intro hvs hvs
      repeat' (first | refine go ?_ | (refine br (fun hc => ?_) (fun hc => ?_) <;> try (exfalso; omega)) | fail)
      all_goals exact .junkd ⟨rfl, rfl⟩

theorem cmdRef_v6 (b : List UInt8) (tok : Tok) (hcl : b.length ≤ 510 ∧ Clean b) (hvv : verbU ((cutB b).1.map upB) = 6) : AEnter (env n0 w0 gl) 57 [.sl b.length (bytesAV b) tok] H (fun y H' => y = .ret (cmdV (cmdP b)) ∧ H' = H) := by
  have hl := hcl.1
  refine enter (md := fun _ => 0) Tryz.func57 (fun hfit hgl => ?_)
  repeat' (first | refine go ?_ | (refine br (fun hc => ?_) (fun hc => ?_) <;> try (exfalso; omega)) | fail)
  refine loop0 (fun i : Nat => (.sl b.length (bytesAV b) tok :: .top :: .ref H.length 0 :: .top :: .top :: .top :: .top :: .top :: .top :: .top :: .top :: .top :: .top :: .top :: .top :: .top :: .top :: .top :: .top :: .top :: .top :: .top :: .top :: .top :: .top :: .top :: .top :: .top :: .top :: .sl b.length (bytesAV b) tok :: .int .i64 b.length :: .int .i64 (i : Int) :: .top :: .top :: .top :: .top :: .top :: .top :: .top :: .top :: .top :: .top :: .top :: .top :: .top :: .top :: .top :: .top :: .top :: .top :: .top :: .top :: .top :: .top :: .top :: .top :: .top :: .top :: .top :: .top :: .top :: .top :: .top :: .top :: .top :: .top :: .top :: .top :: .top :: .top :: .top :: .top :: .top :: .top :: .top :: .top :: .top :: .top :: .top :: .top :: .top :: .top :: .top :: .top :: .top :: .top :: .top :: .top :: .top :: .top :: .top :: .top :: .top :: .top :: .top :: .top :: .top :: .top :: .top :: .top :: .top :: .top :: .top :: .top :: .top :: .top :: .top :: .top :: .top :: .top :: .top :: .top :: .top :: .top :: .top :: .top :: .top :: .top :: .top :: .top :: .top :: .top :: .top :: .top :: .top :: .top :: .top :: .top :: .top :: .top :: .top :: .top :: .top :: .top :: .top :: .top :: .top :: .top :: .top :: .top :: .top :: .top :: .top :: .top :: .top :: .top :: .top :: .top :: .top :: .top :: .top :: .top :: .top :: .top :: .top :: .top :: .top :: .top :: .top :: .top :: .top :: .top :: .top :: .top :: .top :: .top :: .top :: .top :: .top :: .top :: .top :: .top :: .top :: .top :: .top :: .top :: .top :: [])) (fun i => i ≤ b.length) (fun i => b.length - i) 0 (Nat.zero_le _) ?_
  intro i hi
  by_cases hlt : i < b.length
  · have hc256 := (b.getD i 0).toNat_lt
    have hh := row_cmd hlt
    have hcc := hcl.2 i hlt
    repeat' (first | refine go ?_ | (refine br (fun hc => ?_) (fun hc => ?_) <;> try (exfalso; omega)) | fail)
    exact again (i + 1) (by omega) (by omega)
  · obtain rfl : i = b.length := by omega
    clear hlt hi
    repeat' (first | refine go ?_ | (refine br (fun hc => ?_) (fun hc => ?_) <;> try (exfalso; omega)) | fail)
    refine loop0 (fun i : Nat => (.sl b.length (bytesAV b) tok :: .top :: .ref H.length 0 :: .top :: .top :: .top :: .str b :: .str [] :: .top :: .top :: .top :: .top :: .top :: .top :: .top :: .top :: .top :: .top :: .top :: .top :: .top :: .top :: .top :: .top :: .top :: .top :: .top :: .top :: .top :: .top :: .top :: .top :: .top :: .top :: .top :: .top :: .top :: .top :: .top :: .top :: .top :: .top :: .top :: .top :: .top :: .sl b.length (bytesAV b) tok :: .int .i64 b.length :: .int .i64 (i : Int) :: .top :: .top :: .top :: .top :: .top :: .top :: .top :: .top :: .top :: .top :: .top :: .top :: .top :: .top :: .top :: .top :: .top :: .top :: .top :: .top :: .top :: .top :: .top :: .top :: .top :: .top :: .top :: .top :: .top :: .top :: .top :: .top :: .top :: .top :: .top :: .top :: .top :: .top :: .top :: .top :: .top :: .top :: .top :: .top :: .top :: .top :: .top :: .top :: .top :: .top :: .top :: .top :: .top :: .top :: .top :: .top :: .top :: .top :: .top :: .top :: .top :: .top :: .top :: .top :: .top :: .top :: .top :: .top :: .top :: .top :: .top :: .top :: .top :: .top :: .top :: .top :: .top :: .top :: .top :: .top :: .top :: .top :: .top :: .top :: .top :: .top :: .top :: .top :: .top :: .top :: .top :: .top :: .top :: .top :: .top :: .top :: .top :: .top :: .top :: .top :: .top :: .top :: .top :: .top :: .top :: .top :: .top :: .top :: .top :: .top :: .top :: .top :: .top :: .top :: .top :: .top :: .top :: .top :: .top :: .top :: .top :: .top :: .top :: .top :: .top :: .top :: .top :: .top :: .top :: [])) (fun i => i ≤ b.length ∧ (∀ k, k < i → b.getD k 0 ≠ 32)) (fun i => b.length - i) 0 ⟨Nat.zero_le _, fun k h => absurd h (Nat.not_lt_zero _)⟩ ?_
    rintro i ⟨hi, hall⟩
    unfold cmdP
    rw [tf_true hcl]
    try simp only [if_true]
    by_cases hlt : i < b.length
    · have hc256 := (b.getD i 0).toNat_lt
      have hrow := row_cmd hlt
      by_cases hcc : (b.getD i 0).toNat = 32
      · have hcb : cutB b = (b.take i, b.drop (i + 1)) := by unfold cutB; rw [cut_first hlt hall (UInt8.toNat_inj.1 hcc)]
        have hwl : (b.take i).length ≤ 510 := by rw [List.length_take]; omega
        have hrl : (b.drop (i + 1)).length ≤ 510 := by rw [List.length_drop]; omega
        generalize hw : b.take i = w at *
        generalize hr : b.drop (i + 1) = r at *
        have hf := And.intro hrow (And.intro hcc (And.intro hw hr))
        rw [hcb] at hvv ⊢
        simp only at hvv ⊢
        have hvs : verbL (w.map lowB) = 6 := by rw [← verb_same]; exact hvv
        simp only [hvv, Int.reduceEq, reduceIte]
        simp only [fillB, fillT, fillN, Int.reduceEq, reduceIte, or_true, true_or, or_false, false_or, or_self]
        by_cases hr0 : r = []
        · subst hr0
          try simp only [decide_true, if_true]
          have hh := And.intro hf hvs
          repeat' (first | refine go ?_ | (refine br (fun hc => ?_) (fun hc => ?_) <;> try (exfalso; omega)) | fail)
          all_goals exact .junkd ⟨rfl, rfl⟩
        · have hrl0 : r.length ≠ 0 := fun h => hr0 (List.length_eq_zero_iff.1 h)
          simp only [hr0, decide_false, Bool.false_eq_true, if_false]
          have hh := And.intro hf (And.intro hvs (And.intro hr0 hrl0))
          repeat' (first | refine go ?_ | (refine br (fun hc => ?_) (fun hc => ?_) <;> try (exfalso; omega)) | fail)
          all_goals exact .junkd ⟨rfl, rfl⟩
      · have hh := And.intro hrow hcc
        repeat' (first | refine go ?_ | (refine br (fun hc => ?_) (fun hc => ?_) <;> try (exfalso; omega)) | fail)
        refine again (i + 1) ⟨by omega, fun k hk => ?_⟩ (by omega)
        rcases Nat.lt_succ_iff_lt_or_eq.1 hk with h | h
        · exact hall k h
        · subst h; intro h; rw [h] at hcc; exact hcc rfl
    · obtain rfl : i = b.length := by omega
      have hcb : cutB b = (b, []) := by unfold cutB; rw [cut_never hall]
      rw [hcb] at hvv ⊢
      simp only at hvv ⊢
      have hvs : verbL (b.map lowB) = 6 := by rw [← verb_same]; exact hvv
      simp only [hvv, Int.reduceEq, reduceIte]
      simp only [fillB, fillT, fillN, Int.reduceEq, reduceIte, or_true, true_or, or_false, false_or, or_self]
      try simp only [decide_true, if_true]
      have hh := And.intro hvs hvs
      repeat' (first | refine go ?_ | (refine br (fun hc => ?_) (fun hc => ?_) <;> try (exfalso; omega)) | fail)
      all_goals exact .junkd ⟨rfl, rfl⟩

end Go.Ab.Tryz

end

section
set_option linter.unusedSimpArgs false
set_option linter.unusedVariables false
set_option maxHeartbeats 40000000
set_option maxRecDepth 4000
namespace Go.Ab.Tryz
open Go Go.Ab Go.Proofs
attribute [local irreducible] W Wl Wop TrA WSeq WLoopS FPost DPost RPost WRound DK onEnd
variable {n0 : Nat} {w0 : World} {gl : Nat → List AV} {H : List AO}
attribute [local simp] belowL_bytesAV

theorem cmdRef_v7 (b : List UInt8) (tok : Tok) (hcl : b.length ≤ 510 ∧ Clean b) (hvv : verbU ((cutB b).1.map upB) = 7) : AEnter (env n0 w0 gl) 57 [.sl b.length (bytesAV b) tok] H (fun y H' => y = .ret (cmdV (cmdP b)) ∧ H' = H) := by
  have hl := hcl.1
  refine enter (md := fun _ => 0) Tryz.func57 (fun hfit hgl => ?_)
  repeat' (first | refine go ?_ | (refine br (fun hc => ?_) (fun hc => ?_) <;> try (exfalso; omega)) | fail)
  refine loop0 (fun i : Nat => (.sl b.length (bytesAV b) tok :: .top :: .ref H.length 0 :: .top :: .top :: .top :: .top :: .top :: .top :: .top :: .top :: .top :: .top :: .top :: .top :: .top :: .top :: .top :: .top :: .top :: .top :: .top :: .top :: .top :: .top :: .top :: .top :: .top :: .top :: .sl b.length (bytesAV b) tok :: .int .i64 b.length :: .int .i64 (i : Int) :: .top :: .top :: .top :: .top :: .top :: .top :: .top :: .top :: .top :: .top :: .top :: .top :: .top :: .top :: .top :: .top :: .top :: .top :: .top :: .top :: .top :: .top :: .top :: .top :: .top :: .top :: .top :: .top :: .top :: .top :: .top :: .top :: .top :: .top :: .top :: .top :: .top :: .top :: .top :: .top :: .top :: .top :: .top :: .top :: .top :: .top :: .top :: .top :: .top :: .top :: .top :: .top :: .top :: .top :: .top :: .top :: .top :: .top :: .top :: .top :: .top :: .top :: .top :: .top :: .top :: .top :: .top :: .top :: .top :: .top :: .top :: .top :: .top :: .top :: .top :: .top :: .top :: .top :: .top :: .top :: .top :: .top :: .top :: .top :: .top :: .top :: .top :: .top :: .top :: .top :: .top :: .top :: .top :: .top :: .top :: .top :: .top :: .top :: .top :: .top :: .top :: .top :: .top :: .top :: .top :: .top :: .top :: .top :: .top :: .top :: .top :: .top :: .top :: .top :: .top :: .top :: .top :: .top :: .top :: .top :: .top :: .top :: .top :: .top :: .top :: .top :: .top :: .top :: .top :: .top :: .top :: .top :: .top :: .top :: .top :: .top :: .top :: .top :: .top :: .top :: .top :: .top :: .top :: .top :: .top :: [])) (fun i => i ≤ b.length) (fun i => b.length - i) 0 (Nat.zero_le _) ?_
  intro i hi
  by_cases hlt : i < b.length
  · have hc256 := (b.getD i 0).toNat_lt
    have hh := row_cmd hlt
    have hcc := hcl.2 i hlt
    repeat' (first | refine go ?_ | (refine br (fun hc => ?_) (fun hc => ?_) <;> try (exfalso; omega)) | fail)
    exact again (i + 1) (by omega) (by omega)
  · obtain rfl : i = b.length := by omega
    clear hlt hi
    repeat' (first | refine go ?_ | (refine br (fun hc => ?_) (fun hc => ?_) <;> try (exfalso; omega)) | fail)
    refine loop0 (fun i : Nat => (.sl b.length (bytesAV b) tok :: .top :: .ref H.length 0 :: .top :: .top :: .top :: .str b :: .str [] :: .top :: .top :: .top :: .top :: .top :: .top :: .top :: .top :: .top :: .top :: .top :: .top :: .top :: .top :: .top :: .top :: .top :: .top :: .top :: .top :: .top :: .top :: .top :: .top :: .top :: .top :: .top :: .top :: .top :: .top :: .top :: .top :: .top :: .top :: .top :: .top :: .top :: .sl b.length (bytesAV b) tok :: .int .i64 b.length :: .int .i64 (i : Int) :: .top :: .top :: .top :: .top :: .top :: .top :: .top :: .top :: .top :: .top :: .top :: .top :: .top :: .top :: .top :: .top :: .top :: .top :: .top :: .top :: .top :: .top :: .top :: .top :: .top :: .top :: .top :: .top :: .top :: .top :: .top :: .top :: .top :: .top :: .top :: .top :: .top :: .top :: .top :: .top :: .top :: .top :: .top :: .top :: .top :: .top :: .top :: .top :: .top :: .top :: .top :: .top :: .top :: .top :: .top :: .top :: .top :: .top :: .top :: .top :: .top :: .top :: .top :: .top :: .top :: .top :: .top :: .top :: .top :: .top :: .top :: .top :: .top :: .top :: .top :: .top :: .top :: .top :: .top :: .top :: .top :: .top :: .top :: .top :: .top :: .top :: .top :: .top :: .top :: .top :: .top :: .top :: .top :: .top :: .top :: .top :: .top :: .top :: .top :: .top :: .top :: .top :: .top :: .top :: .top :: .top :: .top :: .top :: .top :: .top :: .top :: .top :: .top :: .top :: .top :: .top :: .top :: .top :: .top :: .top :: .top :: .top :: .top :: .top :: .top :: .top :: .top :: .top :: .top :: [])) (fun i => i ≤ b.length ∧ (∀ k, k < i → b.getD k 0 ≠ 32)) (fun i => b.length - i) 0 ⟨Nat.zero_le _, fun k h => absurd h (Nat.not_lt_zero _)⟩ ?_
    rintro i ⟨hi, hall⟩
    unfold cmdP
    rw [tf_true hcl]
    try simp only [if_true]
    by_cases hlt : i < b.length
    · have hc256 := (b.getD i 0).toNat_lt
      have hrow := row_cmd hlt
      by_cases hcc : (b.getD i 0).toNat = 32
      · have hcb : cutB b = (b.take i, b.drop (i + 1)) := by unfold cutB; rw [cut_first hlt hall (UInt8.toNat_inj.1 hcc)]
        have hwl : (b.take i).length ≤ 510 := by rw [List.length_take]; omega
        have hrl : (b.drop (i + 1)).length ≤ 510 := by rw [List.length_drop]; omega
        generalize hw : b.take i = w at *
        generalize hr : b.drop (i + 1) = r at *
        have hf := And.intro hrow (And.intro hcc (And.intro hw hr))
        rw [hcb] at hvv ⊢
        simp only at hvv ⊢
        have hvs : verbL (w.map lowB) = 7 := by rw [← verb_same]; exact hvv
        simp only [hvv, Int.reduceEq, reduceIte]
        simp only [fillB, fillT, fillN, Int.reduceEq, reduceIte, or_true, true_or, or_false, false_or, or_self]
        try simp only [if_true]
        have hh := And.intro hf hvs
        repeat' (first | refine go ?_ | (refine br (fun hc => ?_) (fun hc => ?_) <;> try (exfalso; omega)) | fail)
        all_goals exact .junkd ⟨rfl, rfl⟩
      · have hh := And.intro hrow hcc
        repeat' (first | refine go ?_ | (refine br (fun hc => ?_) (fun hc => ?_) <;> try (exfalso; omega)) | fail)
        refine again (i + 1) ⟨by omega, fun k hk => ?_⟩ (by omega)
        rcases Nat.lt_succ_iff_lt_or_eq.1 hk with h | h
        · exact hall k h
        · subst h; intro h; rw [h] at hcc; exact hcc rfl
    · obtain rfl : i = b.length := by omega
      have hcb : cutB b = (b, []) := by unfold cutB; rw [cut_never hall]
      rw [hcb] at hvv ⊢
      simp only at hvv ⊢
      have hvs : verbL (b.map lowB) = 7 := by rw [← verb_same]; exact hvv
      simp only [hvv, Int.reduceEq, reduceIte]
      simp only [fillB, fillT, fillN, Int.reduceEq, reduceIte, or_true, true_or, or_false, false_or, or_self]
      try simp only [if_true]
      have hh := And.intro hvs hvs
      repeat' (first | refine go ?_ | (refine br (fun hc => ?_) (fun hc => ?_) <;> try (exfalso; omega)) | fail)
      all_goals exact .junkd ⟨rfl, rfl⟩

theorem cmdRef_v8 (b : List UInt8) (tok : Tok) (hcl : b.length ≤ 510 ∧ Clean b) (hvv : verbU ((cutB b).1.map upB) = 8) : AEnter (env n0 w0 gl) 57 [.sl b.length (bytesAV b) tok] H (fun y H' => y = .ret (cmdV (cmdP b)) ∧ H' = H) := by
  have hl := hcl.1
  refine enter (md := fun _ => 0) Tryz.func57 (fun hfit hgl => ?_)
  repeat' (first | refine go ?_ | (refine br (fun hc => ?_) (fun hc => ?_) <;> try (exfalso; omega)) | fail)
  refine loop0 (fun i : Nat => (.sl b.length (bytesAV b) tok :: .top :: .ref H.length 0 :: .top :: .top :: .top :: .top :: .top :: .top :: .top :: .top :: .top :: .top :: .top :: .top :: .top :: .top :: .top :: .top :: .top :: .top :: .top :: .top :: .top :: .top :: .top :: .top :: .top :: .top :: .sl b.length (bytesAV b) tok :: .int .i64 b.length :: .int .i64 (i : Int) :: .top :: .top :: .top :: .top :: .top :: .top :: .top :: .top :: .top :: .top :: .top :: .top :: .top :: .top :: .top :: .top :: .top :: .top :: .top :: .top :: .top :: .top :: .top :: .top :: .top :: .top :: .top :: .top :: .top :: .top :: .top :: .top :: .top :: .top :: .top :: .top :: .top :: .top :: .top :: .top :: .top :: .top :: .top :: .top :: .top :: .top :: .top :: .top :: .top :: .top :: .top :: .top :: .top :: .top :: .top :: .top :: .top :: .top :: .top :: .top :: .top :: .top :: .top :: .top :: .top :: .top :: .top :: .top :: .top :: .top :: .top :: .top :: .top :: .top :: .top :: .top :: .top :: .top :: .top :: .top :: .top :: .top :: .top :: .top :: .top :: .top :: .top :: .top :: .top :: .top :: .top :: .top :: .top :: .top :: .top :: .top :: .top :: .top :: .top :: .top :: .top :: .top :: .top :: .top :: .top :: .top :: .top :: .top :: .top :: .top :: .top :: .top :: .top :: .top :: .top :: .top :: .top :: .top :: .top :: .top :: .top :: .top :: .top :: .top :: .top :: .top :: .top :: .top :: .top :: .top :: .top :: .top :: .top :: .top :: .top :: .top :: .top :: .top :: .top :: .top :: .top :: .top :: .top :: .top :: .top :: [])) (fun i => i ≤ b.length) (fun i => b.length - i) 0 (Nat.zero_le _) ?_
  intro i hi
  by_cases hlt : i < b.length
  · have hc256 := (b.getD i 0).toNat_lt
    have hh := row_cmd hlt
    have hcc := hcl.2 i hlt
    repeat' (first | refine go ?_ | (refine br (fun hc => ?_) (fun hc => ?_) <;> try (exfalso; omega)) | fail)
    exact again (i + 1) (by omega) (by omega)
  · obtain rfl : i = b.length := by omega
    clear hlt hi
    repeat' (first | refine go ?_ | (refine br (fun hc => ?_) (fun hc => ?_) <;> try (exfalso; omega)) | fail)
    refine loop0 (fun i : Nat => (.sl b.length (bytesAV b) tok :: .top :: .ref H.length 0 :: .top :: .top :: .top :: .str b :: .str [] :: .top :: .top :: .top :: .top :: .top :: .top :: .top :: .top :: .top :: .top :: .top :: .top :: .top :: .top :: .top :: .top :: .top :: .top :: .top :: .top :: .top :: .top :: .top :: .top :: .top :: .top :: .top :: .top :: .top :: .top :: .top :: .top :: .top :: .top :: .top :: .top :: .top :: .sl b.length (bytesAV b) tok :: .int .i64 b.length :: .int .i64 (i : Int) :: .top :: .top :: .top :: .top :: .top :: .top :: .top :: .top :: .top :: .top :: .top :: .top :: .top :: .top :: .top :: .top :: .top :: .top :: .top :: .top :: .top :: .top :: .top :: .top :: .top :: .top :: .top :: .top :: .top :: .top :: .top :: .top :: .top :: .top :: .top :: .top :: .top :: .top :: .top :: .top :: .top :: .top :: .top :: .top :: .top :: .top :: .top :: .top :: .top :: .top :: .top :: .top :: .top :: .top :: .top :: .top :: .top :: .top :: .top :: .top :: .top :: .top :: .top :: .top :: .top :: .top :: .top :: .top :: .top :: .top :: .top :: .top :: .top :: .top :: .top :: .top :: .top :: .top :: .top :: .top :: .top :: .top :: .top :: .top :: .top :: .top :: .top :: .top :: .top :: .top :: .top :: .top :: .top :: .top :: .top :: .top :: .top :: .top :: .top :: .top :: .top :: .top :: .top :: .top :: .top :: .top :: .top :: .top :: .top :: .top :: .top :: .top :: .top :: .top :: .top :: .top :: .top :: .top :: .top :: .top :: .top :: .top :: .top :: .top :: .top :: .top :: .top :: .top :: .top :: [])) (fun i => i ≤ b.length ∧ (∀ k, k < i → b.getD k 0 ≠ 32)) (fun i => b.length - i) 0 ⟨Nat.zero_le _, fun k h => absurd h (Nat.not_lt_zero _)⟩ ?_
    rintro i ⟨hi, hall⟩
    unfold cmdP
    rw [tf_true hcl]
    try simp only [if_true]
    by_cases hlt : i < b.length
    · have hc256 := (b.getD i 0).toNat_lt
      have hrow := row_cmd hlt
      by_cases hcc : (b.getD i 0).toNat = 32
      · have hcb : cutB b = (b.take i, b.drop (i + 1)) := by unfold cutB; rw [cut_first hlt hall (UInt8.toNat_inj.1 hcc)]
        have hwl : (b.take i).length ≤ 510 := by rw [List.length_take]; omega
        have hrl : (b.drop (i + 1)).length ≤ 510 := by rw [List.length_drop]; omega
        generalize hw : b.take i = w at *
        generalize hr : b.drop (i + 1) = r at *
        have hf := And.intro hrow (And.intro hcc (And.intro hw hr))
        rw [hcb] at hvv ⊢
        simp only at hvv ⊢
        have hvs : verbL (w.map lowB) = 8 := by rw [← verb_same]; exact hvv
        simp only [hvv, Int.reduceEq, reduceIte]
        simp only [fillB, fillT, fillN, Int.reduceEq, reduceIte, or_true, true_or, or_false, false_or, or_self]
        by_cases hr0 : r = []
        · subst hr0
          try simp only [decide_true, if_true]
          have hh := And.intro hf hvs
          repeat' (first | refine go ?_ | (refine br (fun hc => ?_) (fun hc => ?_) <;> try (exfalso; omega)) | fail)
          all_goals exact .junkd ⟨rfl, rfl⟩
        · have hrl0 : r.length ≠ 0 := fun h => hr0 (List.length_eq_zero_iff.1 h)
          simp only [hr0, decide_false, Bool.false_eq_true, if_false]
          have hh := And.intro hf (And.intro hvs (And.intro hr0 hrl0))
          repeat' (first | refine go ?_ | (refine br (fun hc => ?_) (fun hc => ?_) <;> try (exfalso; omega)) | fail)
          all_goals exact .junkd ⟨rfl, rfl⟩
      · have hh := And.intro hrow hcc
        repeat' (first | refine go ?_ | (refine br (fun hc => ?_) (fun hc => ?_) <;> try (exfalso; omega)) | fail)
        refine again (i + 1) ⟨by omega, fun k hk => ?_⟩ (by omega)
        rcases Nat.lt_succ_iff_lt_or_eq.1 hk with h | h
        · exact hall k h
        · subst h; intro h; rw [h] at hcc; exact hcc rfl
    · obtain rfl : i = b.length := by omega
      have hcb : cutB b = (b, []) := by unfold cutB; rw [cut_never hall]
      rw [hcb] at hvv ⊢
      simp only at hvv ⊢
      have hvs : verbL (b.map lowB) = 8 := by rw [← verb_same]; exact hvv
      simp only [hvv, Int.reduceEq, reduceIte]
      simp only [fillB, fillT, fillN, Int.reduceEq, reduceIte, or_true, true_or, or_false, false_or, or_self]
      try simp only [decide_true, if_true]
      have hh := And.intro hvs hvs
      repeat' (first | refine go ?_ | (refine br (fun hc => ?_) (fun hc => ?_) <;> try (exfalso; omega)) | fail)
      all_goals exact .junkd ⟨rfl, rfl⟩

theorem cmdRef_v9 (b : List UInt8) (tok : Tok) (hcl : b.length ≤ 510 ∧ Clean b) (hvv : verbU ((cutB b).1.map upB) = 9) : AEnter (env n0 w0 gl) 57 [.sl b.length (bytesAV b) tok] H (fun y H' => y = .ret (cmdV (cmdP b)) ∧ H' = H) := by
  have hl := hcl.1
  refine enter (md := fun _ => 0) Tryz.func57 (fun hfit hgl => ?_)
  repeat' (first | refine go ?_ | (refine br (fun hc => ?_) (fun hc => ?_) <;> try (exfalso; omega)) | fail)
  refine loop0 (fun i : Nat => (.sl b.length (bytesAV b) tok :: .top :: .ref H.length 0 :: .top :: .top :: .top :: .top :: .top :: .top :: .top :: .top :: .top :: .top :: .top :: .top :: .top :: .top :: .top :: .top :: .top :: .top :: .top :: .top :: .top :: .top :: .top :: .top :: .top :: .top :: .sl b.length (bytesAV b) tok :: .int .i64 b.length :: .int .i64 (i : Int) :: .top :: .top :: .top :: .top :: .top :: .top :: .top :: .top :: .top :: .top :: .top :: .top :: .top :: .top :: .top :: .top :: .top :: .top :: .top :: .top :: .top :: .top :: .top :: .top :: .top :: .top :: .top :: .top :: .top :: .top :: .top :: .top :: .top :: .top :: .top :: .top :: .top :: .top :: .top :: .top :: .top :: .top :: .top :: .top :: .top :: .top :: .top :: .top :: .top :: .top :: .top :: .top :: .top :: .top :: .top :: .top :: .top :: .top :: .top :: .top :: .top :: .top :: .top :: .top :: .top :: .top :: .top :: .top :: .top :: .top :: .top :: .top :: .top :: .top :: .top :: .top :: .top :: .top :: .top :: .top :: .top :: .top :: .top :: .top :: .top :: .top :: .top :: .top :: .top :: .top :: .top :: .top :: .top :: .top :: .top :: .top :: .top :: .top :: .top :: .top :: .top :: .top :: .top :: .top :: .top :: .top :: .top :: .top :: .top :: .top :: .top :: .top :: .top :: .top :: .top :: .top :: .top :: .top :: .top :: .top :: .top :: .top :: .top :: .top :: .top :: .top :: .top :: .top :: .top :: .top :: .top :: .top :: .top :: .top :: .top :: .top :: .top :: .top :: .top :: .top :: .top :: .top :: .top :: .top :: .top :: [])) (fun i => i ≤ b.length) (fun i => b.length - i) 0 (Nat.zero_le _) ?_
  intro i hi
  by_cases hlt : i < b.length
  · have hc256 := (b.getD i 0).toNat_lt
    have hh := row_cmd hlt
    have hcc := hcl.2 i hlt
    repeat' (first | refine go ?_ | (refine br (fun hc => ?_) (fun hc => ?_) <;> try (exfalso; omega)) | fail)
    exact again (i + 1) (by omega) (by omega)
  · obtain rfl : i = b.length := by omega
    clear hlt hi
    repeat' (first | refine go ?_ | (refine br (fun hc => ?_) (fun hc => ?_) <;> try (exfalso; omega)) | fail)
    refine loop0 (fun i : Nat => (.sl b.length (bytesAV b) tok :: .top :: .ref H.length 0 :: .top :: .top :: .top :: .str b :: .str [] :: .top :: .top :: .top :: .top :: .top :: .top :: .top :: .top :: .top :: .top :: .top :: .top :: .top :: .top :: .top :: .top :: .top :: .top :: .top :: .top :: .top :: .top :: .top :: .top :: .top :: .top :: .top :: .top :: .top :: .top :: .top :: .top :: .top :: .top :: .top :: .top :: .top :: .sl b.length (bytesAV b) tok :: .int .i64 b.length :: .int .i64 (i : Int) :: .top :: .top :: .top :: .top :: .top :: .top :: .top :: .top :: .top :: .top :: .top :: .top :: .top :: .top :: .top :: .top :: .top :: .top :: .top :: .top :: .top :: .top :: .top :: .top :: .top :: .top :: .top :: .top :: .top :: .top :: .top :: .top :: .top :: .top :: .top :: .top :: .top :: .top :: .top :: .top :: .top :: .top :: .top :: .top :: .top :: .top :: .top :: .top :: .top :: .top :: .top :: .top :: .top :: .top :: .top :: .top :: .top :: .top :: .top :: .top :: .top :: .top :: .top :: .top :: .top :: .top :: .top :: .top :: .top :: .top :: .top :: .top :: .top :: .top :: .top :: .top :: .top :: .top :: .top :: .top :: .top :: .top :: .top :: .top :: .top :: .top :: .top :: .top :: .top :: .top :: .top :: .top :: .top :: .top :: .top :: .top :: .top :: .top :: .top :: .top :: .top :: .top :: .top :: .top :: .top :: .top :: .top :: .top :: .top :: .top :: .top :: .top :: .top :: .top :: .top :: .top :: .top :: .top :: .top :: .top :: .top :: .top :: .top :: .top :: .top :: .top :: .top :: .top :: .top :: [])) (fun i => i ≤ b.length ∧ (∀ k, k < i → b.getD k 0 ≠ 32)) (fun i => b.length - i) 0 ⟨Nat.zero_le _, fun k h => absurd h (Nat.not_lt_zero _)⟩ ?_
    rintro i ⟨hi, hall⟩
    unfold cmdP
    rw [tf_true hcl]
    try simp only [if_true]
    by_cases hlt : i < b.length
    · have hc256 := (b.getD i 0).toNat_lt
      have hrow := row_cmd hlt
      by_cases hcc : (b.getD i 0).toNat = 32
      · have hcb : cutB b = (b.take i, b.drop (i + 1)) := by unfold cutB; rw [cut_first hlt hall (UInt8.toNat_inj.1 hcc)]
        have hwl : (b.take i).length ≤ 510 := by rw [List.length_take]; omega
        have hrl : (b.drop (i + 1)).length ≤ 510 := by rw [List.length_drop]; omega
        generalize hw : b.take i = w at *
        generalize hr : b.drop (i + 1) = r at *
        have hf := And.intro hrow (And.intro hcc (And.intro hw hr))
        rw [hcb] at hvv ⊢
        simp only at hvv ⊢
        have hvs : verbL (w.map lowB) = 9 := by rw [← verb_same]; exact hvv
        simp only [hvv, Int.reduceEq, reduceIte]
        simp only [fillB, fillT, fillN, Int.reduceEq, reduceIte, or_true, true_or, or_false, false_or, or_self]
        try simp only [if_true]
        have hh := And.intro hf hvs
        repeat' (first | refine go ?_ | (refine br (fun hc => ?_) (fun hc => ?_) <;> try (exfalso; omega)) | fail)
        all_goals exact .junkd ⟨rfl, rfl⟩
      · have hh := And.intro hrow hcc
        repeat' (first | refine go ?_ | (refine br (fun hc => ?_) (fun hc => ?_) <;> try (exfalso; omega)) | fail)
        refine again (i + 1) ⟨by omega, fun k hk => ?_⟩ (by omega)
        rcases Nat.lt_succ_iff_lt_or_eq.1 hk with h | h
        · exact hall k h
        · subst h; intro h; rw [h] at hcc; exact hcc rfl
    · obtain rfl : i = b.length := by omega
      have hcb : cutB b = (b, []) := by unfold cutB; rw [cut_never hall]
      rw [hcb] at hvv ⊢
      simp only at hvv ⊢
      have hvs : verbL (b.map lowB) = 9 := by rw [← verb_same]; exact hvv
      simp only [hvv, Int.reduceEq, reduceIte]
      simp only [fillB, fillT, fillN, Int.reduceEq, reduceIte, or_true, true_or, or_false, false_or, or_self]
      try simp only [if_true]
      have hh := And.intro hvs hvs
      repeat' (first | refine go ?_ | (refine br (fun hc => ?_) (fun hc => ?_) <;> try (exfalso; omega)) | fail)
      all_goals exact .junkd ⟨rfl, rfl⟩

end Go.Ab.Tryz

end

section
set_option linter.unusedSimpArgs false
set_option linter.unusedVariables false
set_option maxHeartbeats 40000000
set_option maxRecDepth 4000
namespace Go.Ab.Tryz
open Go Go.Ab Go.Proofs
attribute [local irreducible] W Wl Wop TrA WSeq WLoopS FPost DPost RPost WRound DK onEnd
variable {n0 : Nat} {w0 : World} {gl : Nat → List AV} {H : List AO}
attribute [local simp] belowL_bytesAV

theorem cmdRef_e (b : List UInt8) (tok : Tok) (hb : b.length ≤ 9223372036854775807) : AEnter (env n0 w0 gl) 57 [.sl b.length (bytesAV b) tok] H (fun y H' => y = .ret (cmdV (cmdP b)) ∧ H' = H) := by
  by_cases hl : b.length ≤ 510
  · by_cases hcl : Clean b
    · have hr9 := verbU_range ((cutB b).1.map upB)
      have hcase : ∀ v : Int, 0 ≤ v ∧ v ≤ 9 → v = 0 ∨ v = 1 ∨ v = 2 ∨ v = 3 ∨ v = 4 ∨ v = 5 ∨ v = 6 ∨ v = 7 ∨ v = 8 ∨ v = 9 := by intro v hv; omega
      rcases hcase _ hr9 with h | h | h | h | h | h | h | h | h | h
      · exact cmdRef_v0 b tok ⟨hl, hcl⟩ h
      · exact cmdRef_v1 b tok ⟨hl, hcl⟩ h
      · exact cmdRef_v2 b tok ⟨hl, hcl⟩ h
      · exact cmdRef_v3 b tok ⟨hl, hcl⟩ h
      · exact cmdRef_v4 b tok ⟨hl, hcl⟩ h
      · exact cmdRef_v5 b tok ⟨hl, hcl⟩ h
      · exact cmdRef_v6 b tok ⟨hl, hcl⟩ h
      · exact cmdRef_v7 b tok ⟨hl, hcl⟩ h
      · exact cmdRef_v8 b tok ⟨hl, hcl⟩ h
      · exact cmdRef_v9 b tok ⟨hl, hcl⟩ h
    · rw [cmdP_dirty fun h => hcl h.2]
      refine enter (md := fun _ => 0) Tryz.func57 (fun hfit hgl => ?_)
      repeat' (first | refine go ?_ | (refine br (fun hc => ?_) (fun hc => ?_) <;> try (exfalso; omega)) | fail)
      refine loop0 (fun i : Nat => (.sl b.length (bytesAV b) tok :: .top :: .ref H.length 0 :: .top :: .top :: .top :: .top :: .top :: .top :: .top :: .top :: .top :: .top :: .top :: .top :: .top :: .top :: .top :: .top :: .top :: .top :: .top :: .top :: .top :: .top :: .top :: .top :: .top :: .top :: .sl b.length (bytesAV b) tok :: .int .i64 b.length :: .int .i64 (i : Int) :: .top :: .top :: .top :: .top :: .top :: .top :: .top :: .top :: .top :: .top :: .top :: .top :: .top :: .top :: .top :: .top :: .top :: .top :: .top :: .top :: .top :: .top :: .top :: .top :: .top :: .top :: .top :: .top :: .top :: .top :: .top :: .top :: .top :: .top :: .top :: .top :: .top :: .top :: .top :: .top :: .top :: .top :: .top :: .top :: .top :: .top :: .top :: .top :: .top :: .top :: .top :: .top :: .top :: .top :: .top :: .top :: .top :: .top :: .top :: .top :: .top :: .top :: .top :: .top :: .top :: .top :: .top :: .top :: .top :: .top :: .top :: .top :: .top :: .top :: .top :: .top :: .top :: .top :: .top :: .top :: .top :: .top :: .top :: .top :: .top :: .top :: .top :: .top :: .top :: .top :: .top :: .top :: .top :: .top :: .top :: .top :: .top :: .top :: .top :: .top :: .top :: .top :: .top :: .top :: .top :: .top :: .top :: .top :: .top :: .top :: .top :: .top :: .top :: .top :: .top :: .top :: .top :: .top :: .top :: .top :: .top :: .top :: .top :: .top :: .top :: .top :: .top :: .top :: .top :: .top :: .top :: .top :: .top :: .top :: .top :: .top :: .top :: .top :: .top :: .top :: .top :: .top :: .top :: .top :: .top :: [])) (fun i => i ≤ b.length ∧ (∀ k, k < i → 32 ≤ (b.getD k 0).toNat ∧ (b.getD k 0).toNat < 127)) (fun i => b.length - i) 0 ⟨Nat.zero_le _, fun k h => absurd h (Nat.not_lt_zero _)⟩ ?_
      rintro i ⟨hi, hall⟩
      by_cases hlt : i < b.length
      · have hc256 := (b.getD i 0).toNat_lt
        have hh := row_cmd hlt
        by_cases hcc : 32 ≤ (b.getD i 0).toNat ∧ (b.getD i 0).toNat < 127
        · repeat' (first | refine go ?_ | (refine br (fun hc => ?_) (fun hc => ?_) <;> try (exfalso; omega)) | fail)
          refine again (i + 1) ⟨by omega, fun k hk => ?_⟩ (by omega)
          rcases Nat.lt_succ_iff_lt_or_eq.1 hk with h | h
          · exact hall k h
          · subst h; exact hcc
        · repeat' (first | refine go ?_ | (refine br (fun hc => ?_) (fun hc => ?_) <;> try (exfalso; omega)) | fail)
          all_goals exact .junkd ⟨rfl, rfl⟩
      · obtain rfl : i = b.length := by omega
        exact absurd hall hcl
  · rw [cmdP_dirty fun h => hl h.1]
    refine enter (md := fun _ => 0) Tryz.func57 (fun hfit hgl => ?_)
    repeat' (first | refine go ?_ | (refine br (fun hc => ?_) (fun hc => ?_) <;> try (exfalso; omega)) | fail)
    exact .junkd ⟨rfl, rfl⟩

instance cmdRef_t (k : Nat) (b : List UInt8) (tok : Tok) : Ctr (env n0 w0 gl) 57 [.sl k (bytesAV b) tok] H (k = b.length ∧ b.length ≤ 9223372036854775807) (.tup [.agg [.int .i64 (cmdP b).1, .str (cmdP b).2.1, .int .i64 (cmdP b).2.2.1], .int .i64 (cmdP b).2.2.2]) H := .of fun ⟨h, h2⟩ => by
  subst h
  exact cmdRef_e b tok h2

end Go.Ab.Tryz

end
