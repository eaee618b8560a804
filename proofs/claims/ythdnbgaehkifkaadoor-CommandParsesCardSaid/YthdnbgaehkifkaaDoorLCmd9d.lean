/- Walks: the reference's command, by verbs. (printed by mkCmd9.py) -/
import Derived.Test.YthdnbgaehkifkaaDoorLCmd9
set_option linter.unusedSimpArgs false
set_option linter.unusedVariables false
set_option maxHeartbeats 40000000
set_option maxRecDepth 4000
namespace Go.Ab.Tryd
open Go Go.Ab Go.Proofs
attribute [local irreducible] W Wl Wop TrA WSeq WLoopS FPost DPost RPost WRound DK onEnd
variable {n0 : Nat} {w0 : World} {gl : Nat → List AV} {H : List AO}
attribute [local simp] belowL_bytesAV

theorem cmdRef_v7 (b : List UInt8) (tok : Tok) (hcl : b.length ≤ 510 ∧ Clean b) (hvv : verbU ((cutB b).1.map upB) = 7) : AEnter (env n0 w0 gl) 9 [.sl b.length (bytesAV b) tok] H (fun y H' => y = .ret (cmdV (cmdP b)) ∧ H' = H) := by
  have hl := hcl.1
  refine enter (md := fun _ => 0) Tryd.func9 (fun hfit hgl => ?_)
  repeat' (first | refine go ?_ | (refine br (fun hc => ?_) (fun hc => ?_) <;> try (exfalso; omega)) | fail)
  refine loop0 (fun i : Nat => (.sl b.length (bytesAV b) tok :: .top :: .ref H.length 0 :: .top :: .top :: .top :: .top :: .top :: .top :: .top :: .top :: .top :: .top :: .top :: .top :: .top :: .top :: .top :: .top :: .top :: .top :: .top :: .top :: .top :: .top :: .top :: .top :: .top :: .top :: .sl b.length (bytesAV b) tok :: .int .i64 b.length :: .int .i64 (i : Int) :: .top :: .top :: .top :: .top :: .top :: .top :: .top :: .top :: .top :: .top :: .top :: .top :: .top :: .top :: .top :: .top :: .top :: .top :: .top :: .top :: .top :: .top :: .top :: .top :: .top :: .top :: .top :: .top :: .top :: .top :: .top :: .top :: .top :: .top :: .top :: .top :: .top :: .top :: .top :: .top :: .top :: .top :: .top :: .top :: .top :: .top :: .top :: .top :: .top :: .top :: .top :: .top :: .top :: .top :: .top :: .top :: .top :: .top :: .top :: .top :: .top :: .top :: .top :: .top :: .top :: .top :: .top :: .top :: .top :: .top :: .top :: .top :: .top :: .top :: .top :: .top :: .top :: .top :: .top :: .top :: .top :: .top :: .top :: .top :: .top :: .top :: .top :: .top :: .top :: .top :: .top :: .top :: .top :: .top :: .top :: .top :: .top :: .top :: .top :: .top :: .top :: .top :: .top :: .top :: .top :: .top :: .top :: .top :: .top :: .top :: .top :: .top :: .top :: .top :: .top :: .top :: .top :: .top :: .top :: .top :: .top :: .top :: .top :: .top :: .top :: .top :: .top :: .top :: .top :: .top :: .top :: .top :: .top :: .top :: .top :: .top :: .top :: .top :: .top :: .top :: .top :: .top :: .top :: .top :: .top :: [])) (fun i => i ≤ b.length) (fun i => b.length - i) 0 (Nat.zero_le _) ?_
  intro i hi
  by_cases hlt : i < b.length
  · have hc256 := (b.getD i 0).toNat_lt
    have hh := row_cmd hlt
    have hcc := hcl.2 i hlt
    repeat' (first | refine go ?_ | (refine br (fun hc => ?_) (fun hc => ?_) <;> try (exfalso; omega)) | fail)
    exact again (i + 1) (by omega) (by omega)
  · obtain rfl : i = b.length := by omega
    clear hlt hi
    repeat' (first | refine go ?_ | (refine br (fun hc => ?_) (fun hc => ?_) <;> try (exfalso; omega)) | fail)
    refine loop0 (fun i : Nat => (.sl b.length (bytesAV b) tok :: .top :: .ref H.length 0 :: .top :: .top :: .top :: .str b :: .str [] :: .top :: .top :: .top :: .top :: .top :: .top :: .top :: .top :: .top :: .top :: .top :: .top :: .top :: .top :: .top :: .top :: .top :: .top :: .top :: .top :: .top :: .top :: .top :: .top :: .top :: .top :: .top :: .top :: .top :: .top :: .top :: .top :: .top :: .top :: .top :: .top :: .top :: .sl b.length (bytesAV b) tok :: .int .i64 b.length :: .int .i64 (i : Int) :: .top :: .top :: .top :: .top :: .top :: .top :: .top :: .top :: .top :: .top :: .top :: .top :: .top :: .top :: .top :: .top :: .top :: .top :: .top :: .top :: .top :: .top :: .top :: .top :: .top :: .top :: .top :: .top :: .top :: .top :: .top :: .top :: .top :: .top :: .top :: .top :: .top :: .top :: .top :: .top :: .top :: .top :: .top :: .top :: .top :: .top :: .top :: .top :: .top :: .top :: .top :: .top :: .top :: .top :: .top :: .top :: .top :: .top :: .top :: .top :: .top :: .top :: .top :: .top :: .top :: .top :: .top :: .top :: .top :: .top :: .top :: .top :: .top :: .top :: .top :: .top :: .top :: .top :: .top :: .top :: .top :: .top :: .top :: .top :: .top :: .top :: .top :: .top :: .top :: .top :: .top :: .top :: .top :: .top :: .top :: .top :: .top :: .top :: .top :: .top :: .top :: .top :: .top :: .top :: .top :: .top :: .top :: .top :: .top :: .top :: .top :: .top :: .top :: .top :: .top :: .top :: .top :: .top :: .top :: .top :: .top :: .top :: .top :: .top :: .top :: .top :: .top :: .top :: .top :: [])) (fun i => i ≤ b.length ∧ (∀ k, k < i → b.getD k 0 ≠ 32)) (fun i => b.length - i) 0 ⟨Nat.zero_le _, fun k h => absurd h (Nat.not_lt_zero _)⟩ ?_
    rintro i ⟨hi, hall⟩
    unfold cmdP
    rw [tf_true hcl]
    try simp only [if_true]
    by_cases hlt : i < b.length
    · have hc256 := (b.getD i 0).toNat_lt
      have hrow := row_cmd hlt
      by_cases hcc : (b.getD i 0).toNat = 32
      · have hcb : cutB b = (b.take i, b.drop (i + 1)) := by unfold cutB; rw [cut_first hlt hall (UInt8.toNat_inj.1 hcc)]
        have hwl : (b.take i).length ≤ 510 := by rw [List.length_take]; omega
        have hrl : (b.drop (i + 1)).length ≤ 510 := by rw [List.length_drop]; omega
        generalize hw : b.take i = w at *
        generalize hr : b.drop (i + 1) = r at *
        have hf := And.intro hrow (And.intro hcc (And.intro hw hr))
        rw [hcb] at hvv ⊢
        simp only at hvv ⊢
        have hvs : verbL (w.map lowB) = 7 := by rw [← verb_same]; exact hvv
        simp only [hvv, Int.reduceEq, reduceIte]
        simp only [fillB, fillT, fillN, Int.reduceEq, reduceIte, or_true, true_or, or_false, false_or, or_self]
        try simp only [if_true]
        have hh := And.intro hf hvs
        repeat' (first | refine go ?_ | (refine br (fun hc => ?_) (fun hc => ?_) <;> try (exfalso; omega)) | fail)
        all_goals exact .junkd ⟨rfl, rfl⟩
      · have hh := And.intro hrow hcc
        repeat' (first | refine go ?_ | (refine br (fun hc => ?_) (fun hc => ?_) <;> try (exfalso; omega)) | fail)
        refine again (i + 1) ⟨by omega, fun k hk => ?_⟩ (by omega)
        rcases Nat.lt_succ_iff_lt_or_eq.1 hk with h | h
        · exact hall k h
        · subst h; intro h; rw [h] at hcc; exact hcc rfl
    · obtain rfl : i = b.length := by omega
      have hcb : cutB b = (b, []) := by unfold cutB; rw [cut_never hall]
      rw [hcb] at hvv ⊢
      simp only at hvv ⊢
      have hvs : verbL (b.map lowB) = 7 := by rw [← verb_same]; exact hvv
      simp only [hvv, Int.reduceEq, reduceIte]
      simp only [fillB, fillT, fillN, Int.reduceEq, reduceIte, or_true, true_or, or_false, false_or, or_self]
      try simp only [if_true]
      have hh := And.intro hvs hvs
      repeat' (first | refine go ?_ | (refine br (fun hc => ?_) (fun hc => ?_) <;> try (exfalso; omega)) | fail)
      all_goals exact .junkd ⟨rfl, rfl⟩

theorem cmdRef_v8 (b : List UInt8) (tok : Tok) (hcl : b.length ≤ 510 ∧ Clean b) (hvv : verbU ((cutB b).1.map upB) = 8) : AEnter (env n0 w0 gl) 9 [.sl b.length (bytesAV b) tok] H (fun y H' => y = .ret (cmdV (cmdP b)) ∧ H' = H) := by
  have hl := hcl.1
  refine enter (md := fun _ => 0) Tryd.func9 (fun hfit hgl => ?_)
  repeat' (first | refine go ?_ | (refine br (fun hc => ?_) (fun hc => ?_) <;> try (exfalso; omega)) | fail)
  refine loop0 (fun i : Nat => (.sl b.length (bytesAV b) tok :: .top :: .ref H.length 0 :: .top :: .top :: .top :: .top :: .top :: .top :: .top :: .top :: .top :: .top :: .top :: .top :: .top :: .top :: .top :: .top :: .top :: .top :: .top :: .top :: .top :: .top :: .top :: .top :: .top :: .top :: .sl b.length (bytesAV b) tok :: .int .i64 b.length :: .int .i64 (i : Int) :: .top :: .top :: .top :: .top :: .top :: .top :: .top :: .top :: .top :: .top :: .top :: .top :: .top :: .top :: .top :: .top :: .top :: .top :: .top :: .top :: .top :: .top :: .top :: .top :: .top :: .top :: .top :: .top :: .top :: .top :: .top :: .top :: .top :: .top :: .top :: .top :: .top :: .top :: .top :: .top :: .top :: .top :: .top :: .top :: .top :: .top :: .top :: .top :: .top :: .top :: .top :: .top :: .top :: .top :: .top :: .top :: .top :: .top :: .top :: .top :: .top :: .top :: .top :: .top :: .top :: .top :: .top :: .top :: .top :: .top :: .top :: .top :: .top :: .top :: .top :: .top :: .top :: .top :: .top :: .top :: .top :: .top :: .top :: .top :: .top :: .top :: .top :: .top :: .top :: .top :: .top :: .top :: .top :: .top :: .top :: .top :: .top :: .top :: .top :: .top :: .top :: .top :: .top :: .top :: .top :: .top :: .top :: .top :: .top :: .top :: .top :: .top :: .top :: .top :: .top :: .top :: .top :: .top :: .top :: .top :: .top :: .top :: .top :: .top :: .top :: .top :: .top :: .top :: .top :: .top :: .top :: .top :: .top :: .top :: .top :: .top :: .top :: .top :: .top :: .top :: .top :: .top :: .top :: .top :: .top :: [])) (fun i => i ≤ b.length) (fun i => b.length - i) 0 (Nat.zero_le _) ?_
  intro i hi
  by_cases hlt : i < b.length
  · have hc256 := (b.getD i 0).toNat_lt
    have hh := row_cmd hlt
    have hcc := hcl.2 i hlt
    repeat' (first | refine go ?_ | (refine br (fun hc => ?_) (fun hc => ?_) <;> try (exfalso; omega)) | fail)
    exact again (i + 1) (by omega) (by omega)
  · obtain rfl : i = b.length := by omega
    clear hlt hi
    repeat' (first | refine go ?_ | (refine br (fun hc => ?_) (fun hc => ?_) <;> try (exfalso; omega)) | fail)
    refine loop0 (fun i : Nat => (.sl b.length (bytesAV b) tok :: .top :: .ref H.length 0 :: .top :: .top :: .top :: .str b :: .str [] :: .top :: .top :: .top :: .top :: .top :: .top :: .top :: .top :: .top :: .top :: .top :: .top :: .top :: .top :: .top :: .top :: .top :: .top :: .top :: .top :: .top :: .top :: .top :: .top :: .top :: .top :: .top :: .top :: .top :: .top :: .top :: .top :: .top :: .top :: .top :: .top :: .top :: .sl b.length (bytesAV b) tok :: .int .i64 b.length :: .int .i64 (i : Int) :: .top :: .top :: .top :: .top :: .top :: .top :: .top :: .top :: .top :: .top :: .top :: .top :: .top :: .top :: .top :: .top :: .top :: .top :: .top :: .top :: .top :: .top :: .top :: .top :: .top :: .top :: .top :: .top :: .top :: .top :: .top :: .top :: .top :: .top :: .top :: .top :: .top :: .top :: .top :: .top :: .top :: .top :: .top :: .top :: .top :: .top :: .top :: .top :: .top :: .top :: .top :: .top :: .top :: .top :: .top :: .top :: .top :: .top :: .top :: .top :: .top :: .top :: .top :: .top :: .top :: .top :: .top :: .top :: .top :: .top :: .top :: .top :: .top :: .top :: .top :: .top :: .top :: .top :: .top :: .top :: .top :: .top :: .top :: .top :: .top :: .top :: .top :: .top :: .top :: .top :: .top :: .top :: .top :: .top :: .top :: .top :: .top :: .top :: .top :: .top :: .top :: .top :: .top :: .top :: .top :: .top :: .top :: .top :: .top :: .top :: .top :: .top :: .top :: .top :: .top :: .top :: .top :: .top :: .top :: .top :: .top :: .top :: .top :: .top :: .top :: .top :: .top :: .top :: .top :: [])) (fun i => i ≤ b.length ∧ (∀ k, k < i → b.getD k 0 ≠ 32)) (fun i => b.length - i) 0 ⟨Nat.zero_le _, fun k h => absurd h (Nat.not_lt_zero _)⟩ ?_
    rintro i ⟨hi, hall⟩
    unfold cmdP
    rw [tf_true hcl]
    try simp only [if_true]
    by_cases hlt : i < b.length
    · have hc256 := (b.getD i 0).toNat_lt
      have hrow := row_cmd hlt
      by_cases hcc : (b.getD i 0).toNat = 32
      · have hcb : cutB b = (b.take i, b.drop (i + 1)) := by unfold cutB; rw [cut_first hlt hall (UInt8.toNat_inj.1 hcc)]
        have hwl : (b.take i).length ≤ 510 := by rw [List.length_take]; omega
        have hrl : (b.drop (i + 1)).length ≤ 510 := by rw [List.length_drop]; omega
        generalize hw : b.take i = w at *
        generalize hr : b.drop (i + 1) = r at *
        have hf := And.intro hrow (And.intro hcc (And.intro hw hr))
        rw [hcb] at hvv ⊢
        simp only at hvv ⊢
        have hvs : verbL (w.map lowB) = 8 := by rw [← verb_same]; exact hvv
        simp only [hvv, Int.reduceEq, reduceIte]
        simp only [fillB, fillT, fillN, Int.reduceEq, reduceIte, or_true, true_or, or_false, false_or, or_self]
        by_cases hr0 : r = []
        · subst hr0
          try simp only [decide_true, if_true]
          have hh := And.intro hf hvs
          repeat' (first | refine go ?_ | (refine br (fun hc => ?_) (fun hc => ?_) <;> try (exfalso; omega)) | fail)
          all_goals exact .junkd ⟨rfl, rfl⟩
        · have hrl0 : r.length ≠ 0 := fun h => hr0 (List.length_eq_zero_iff.1 h)
          simp only [hr0, decide_false, Bool.false_eq_true, if_false]
          have hh := And.intro hf (And.intro hvs (And.intro hr0 hrl0))
          repeat' (first | refine go ?_ | (refine br (fun hc => ?_) (fun hc => ?_) <;> try (exfalso; omega)) | fail)
          all_goals exact .junkd ⟨rfl, rfl⟩
      · have hh := And.intro hrow hcc
        repeat' (first | refine go ?_ | (refine br (fun hc => ?_) (fun hc => ?_) <;> try (exfalso; omega)) | fail)
        refine again (i + 1) ⟨by omega, fun k hk => ?_⟩ (by omega)
        rcases Nat.lt_succ_iff_lt_or_eq.1 hk with h | h
        · exact hall k h
        · subst h; intro h; rw [h] at hcc; exact hcc rfl
    · obtain rfl : i = b.length := by omega
      have hcb : cutB b = (b, []) := by unfold cutB; rw [cut_never hall]
      rw [hcb] at hvv ⊢
      simp only at hvv ⊢
      have hvs : verbL (b.map lowB) = 8 := by rw [← verb_same]; exact hvv
      simp only [hvv, Int.reduceEq, reduceIte]
      simp only [fillB, fillT, fillN, Int.reduceEq, reduceIte, or_true, true_or, or_false, false_or, or_self]
      try simp only [decide_true, if_true]
      have hh := And.intro hvs hvs
      repeat' (first | refine go ?_ | (refine br (fun hc => ?_) (fun hc => ?_) <;> try (exfalso; omega)) | fail)
      all_goals exact .junkd ⟨rfl, rfl⟩

theorem cmdRef_v9 (b : List UInt8) (tok : Tok) (hcl : b.length ≤ 510 ∧ Clean b) (hvv : verbU ((cutB b).1.map upB) = 9) : AEnter (env n0 w0 gl) 9 [.sl b.length (bytesAV b) tok] H (fun y H' => y = .ret (cmdV (cmdP b)) ∧ H' = H) := by
  have hl := hcl.1
  refine enter (md := fun _ => 0) Tryd.func9 (fun hfit hgl => ?_)
  repeat' (first | refine go ?_ | (refine br (fun hc => ?_) (fun hc => ?_) <;> try (exfalso; omega)) | fail)
  refine loop0 (fun i : Nat => (.sl b.length (bytesAV b) tok :: .top :: .ref H.length 0 :: .top :: .top :: .top :: .top :: .top :: .top :: .top :: .top :: .top :: .top :: .top :: .top :: .top :: .top :: .top :: .top :: .top :: .top :: .top :: .top :: .top :: .top :: .top :: .top :: .top :: .top :: .sl b.length (bytesAV b) tok :: .int .i64 b.length :: .int .i64 (i : Int) :: .top :: .top :: .top :: .top :: .top :: .top :: .top :: .top :: .top :: .top :: .top :: .top :: .top :: .top :: .top :: .top :: .top :: .top :: .top :: .top :: .top :: .top :: .top :: .top :: .top :: .top :: .top :: .top :: .top :: .top :: .top :: .top :: .top :: .top :: .top :: .top :: .top :: .top :: .top :: .top :: .top :: .top :: .top :: .top :: .top :: .top :: .top :: .top :: .top :: .top :: .top :: .top :: .top :: .top :: .top :: .top :: .top :: .top :: .top :: .top :: .top :: .top :: .top :: .top :: .top :: .top :: .top :: .top :: .top :: .top :: .top :: .top :: .top :: .top :: .top :: .top :: .top :: .top :: .top :: .top :: .top :: .top :: .top :: .top :: .top :: .top :: .top :: .top :: .top :: .top :: .top :: .top :: .top :: .top :: .top :: .top :: .top :: .top :: .top :: .top :: .top :: .top :: .top :: .top :: .top :: .top :: .top :: .top :: .top :: .top :: .top :: .top :: .top :: .top :: .top :: .top :: .top :: .top :: .top :: .top :: .top :: .top :: .top :: .top :: .top :: .top :: .top :: .top :: .top :: .top :: .top :: .top :: .top :: .top :: .top :: .top :: .top :: .top :: .top :: .top :: .top :: .top :: .top :: .top :: .top :: [])) (fun i => i ≤ b.length) (fun i => b.length - i) 0 (Nat.zero_le _) ?_
  intro i hi
  by_cases hlt : i < b.length
  · have hc256 := (b.getD i 0).toNat_lt
    have hh := row_cmd hlt
    have hcc := hcl.2 i hlt
    repeat' (first | refine go ?_ | (refine br (fun hc => ?_) (fun hc => ?_) <;> try (exfalso; omega)) | fail)
    exact again (i + 1) (by omega) (by omega)
  · obtain rfl : i = b.length := by omega
    clear hlt hi
    repeat' (first | refine go ?_ | (refine br (fun hc => ?_) (fun hc => ?_) <;> try (exfalso; omega)) | fail)
    refine loop0 (fun i : Nat => (.sl b.length (bytesAV b) tok :: .top :: .ref H.length 0 :: .top :: .top :: .top :: .str b :: .str [] :: .top :: .top :: .top :: .top :: .top :: .top :: .top :: .top :: .top :: .top :: .top :: .top :: .top :: .top :: .top :: .top :: .top :: .top :: .top :: .top :: .top :: .top :: .top :: .top :: .top :: .top :: .top :: .top :: .top :: .top :: .top :: .top :: .top :: .top :: .top :: .top :: .top :: .sl b.length (bytesAV b) tok :: .int .i64 b.length :: .int .i64 (i : Int) :: .top :: .top :: .top :: .top :: .top :: .top :: .top :: .top :: .top :: .top :: .top :: .top :: .top :: .top :: .top :: .top :: .top :: .top :: .top :: .top :: .top :: .top :: .top :: .top :: .top :: .top :: .top :: .top :: .top :: .top :: .top :: .top :: .top :: .top :: .top :: .top :: .top :: .top :: .top :: .top :: .top :: .top :: .top :: .top :: .top :: .top :: .top :: .top :: .top :: .top :: .top :: .top :: .top :: .top :: .top :: .top :: .top :: .top :: .top :: .top :: .top :: .top :: .top :: .top :: .top :: .top :: .top :: .top :: .top :: .top :: .top :: .top :: .top :: .top :: .top :: .top :: .top :: .top :: .top :: .top :: .top :: .top :: .top :: .top :: .top :: .top :: .top :: .top :: .top :: .top :: .top :: .top :: .top :: .top :: .top :: .top :: .top :: .top :: .top :: .top :: .top :: .top :: .top :: .top :: .top :: .top :: .top :: .top :: .top :: .top :: .top :: .top :: .top :: .top :: .top :: .top :: .top :: .top :: .top :: .top :: .top :: .top :: .top :: .top :: .top :: .top :: .top :: .top :: .top :: [])) (fun i => i ≤ b.length ∧ (∀ k, k < i → b.getD k 0 ≠ 32)) (fun i => b.length - i) 0 ⟨Nat.zero_le _, fun k h => absurd h (Nat.not_lt_zero _)⟩ ?_
    rintro i ⟨hi, hall⟩
    unfold cmdP
    rw [tf_true hcl]
    try simp only [if_true]
    by_cases hlt : i < b.length
    · have hc256 := (b.getD i 0).toNat_lt
      have hrow := row_cmd hlt
      by_cases hcc : (b.getD i 0).toNat = 32
      · have hcb : cutB b = (b.take i, b.drop (i + 1)) := by unfold cutB; rw [cut_first hlt hall (UInt8.toNat_inj.1 hcc)]
        have hwl : (b.take i).length ≤ 510 := by rw [List.length_take]; omega
        have hrl : (b.drop (i + 1)).length ≤ 510 := by rw [List.length_drop]; omega
        generalize hw : b.take i = w at *
        generalize hr : b.drop (i + 1) = r at *
        have hf := And.intro hrow (And.intro hcc (And.intro hw hr))
        rw [hcb] at hvv ⊢
        simp only at hvv ⊢
        have hvs : verbL (w.map lowB) = 9 := by rw [← verb_same]; exact hvv
        simp only [hvv, Int.reduceEq, reduceIte]
        simp only [fillB, fillT, fillN, Int.reduceEq, reduceIte, or_true, true_or, or_false, false_or, or_self]
        try simp only [if_true]
        have hh := And.intro hf hvs
        repeat' (first | refine go ?_ | (refine br (fun hc => ?_) (fun hc => ?_) <;> try (exfalso; omega)) | fail)
        all_goals exact .junkd ⟨rfl, rfl⟩
      · have hh := And.intro hrow hcc
        repeat' (first | refine go ?_ | (refine br (fun hc => ?_) (fun hc => ?_) <;> try (exfalso; omega)) | fail)
        refine again (i + 1) ⟨by omega, fun k hk => ?_⟩ (by omega)
        rcases Nat.lt_succ_iff_lt_or_eq.1 hk with h | h
        · exact hall k h
        · subst h; intro h; rw [h] at hcc; exact hcc rfl
    · obtain rfl : i = b.length := by omega
      have hcb : cutB b = (b, []) := by unfold cutB; rw [cut_never hall]
      rw [hcb] at hvv ⊢
      simp only at hvv ⊢
      have hvs : verbL (b.map lowB) = 9 := by rw [← verb_same]; exact hvv
      simp only [hvv, Int.reduceEq, reduceIte]
      simp only [fillB, fillT, fillN, Int.reduceEq, reduceIte, or_true, true_or, or_false, false_or, or_self]
      try simp only [if_true]
      have hh := And.intro hvs hvs
      repeat' (first | refine go ?_ | (refine br (fun hc => ?_) (fun hc => ?_) <;> try (exfalso; omega)) | fail)
      all_goals exact .junkd ⟨rfl, rfl⟩

end Go.Ab.Tryd
