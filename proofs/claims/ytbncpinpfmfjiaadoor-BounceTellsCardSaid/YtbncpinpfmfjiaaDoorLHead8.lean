/- Walks: head.Show. -/
import Derived.Test.YtbncpinpfmfjiaaDoorLHead6
set_option linter.unusedSimpArgs false
set_option linter.unusedVariables false
set_option maxHeartbeats 2000000
set_option maxRecDepth 4000
namespace Go.Ab.Tryd
open Go Go.Ab Go.Proofs
attribute [local irreducible] W Wl Wop TrA WSeq WLoopS FPost DPost RPost WRound DK onEnd
variable {n0 : Nat} {w0 : World} {gl : Nat → List AV} {H : List AO}
attribute [local simp] belowL_bytesAV

instance indexByte13_t (s : List UInt8) : Ctr (env n0 w0 gl) 95 [.str s, .int .u8 13] H True (.int .i64 (Lib.indexByte s 13)) H := indexByte_t s 13
instance indexByte10_t (s : List UInt8) : Ctr (env n0 w0 gl) 95 [.str s, .int .u8 10] H True (.int .i64 (Lib.indexByte s 10)) H := indexByte_t s 10

/-- Whether a field may be shown. -/
def FldOk (f : List UInt8 × List UInt8) : Prop := NameOk f.1 ∧ Lib.indexByte f.2 13 < 0 ∧ Lib.indexByte f.2 10 < 0 ∧ Lib.trimS f.2 [32, 9] = f.2
def showF (f : List UInt8 × List UInt8) : List UInt8 := f.1 ++ [58, 32] ++ f.2 ++ [13, 10]
def showL (l : Flds) : List UInt8 := l.flatMap showF
theorem showL_take {l : Flds} {i : Nat} (h : i < l.length) : showL (l.take (i + 1)) = showL (l.take i) ++ showF (l.getD i ([], [])) := by
  unfold showL
  rw [List.take_add_one, List.flatMap_append, List.getD_eq_getElem?_getD, List.getElem?_eq_getElem h]
  simp only [Option.toList_some, List.flatMap_cons, List.flatMap_nil, List.append_nil, Option.getD_some]
theorem showL_mono (l : Flds) (i : Nat) : (showL (l.take i)).length ≤ (showL l).length := by
  conv => rhs; rw [← List.take_append_drop i l]
  unfold showL
  rw [List.flatMap_append, List.length_append]
  omega
/-- A head shown, or an error's number. -/
noncomputable def showR (l : Flds) : List UInt8 ⊕ Int := if tf (∀ i, i < l.length → FldOk (l.getD i ([], []))) then (if l.length ≤ 1000 ∧ (showL l).length ≤ 99998 then .inl (showL l ++ [13, 10]) else .inr 2) else .inr 80

theorem show1_t (l : Flds) (hl : l.length ≤ 9223372036854775807) (hb : ∀ i, i < l.length → (l.getD i ([], [])).1.length + (l.getD i ([], [])).2.length ≤ 1000000) : AEnter (env n0 w0 gl) 94 [.ref H.length 0, .ref (H.length + 1) 0] (H ++ [.cells [.sl l.length (fldAV l) .ro], .cells [.sl 0 [] .full], .cells [.int .i64 0]])
    (fun y H' => match showR l with
    | .inl s => y = .ret (.tup []) ∧ H' = H ++ [.cells [.sl l.length (fldAV l) .ro], .cells [.vsl (H.length + 3) s.length], .cells [.int .i64 0], .vec 1 s.length (bytesAV s)]
    | .inr e => y = .panic (thrownH e) ∧ ∃ x z, H' = H ++ .cells [.sl l.length (fldAV l) .ro] :: .cells [x] :: .cells [.int .i64 0] :: z) := by
  have hfl := fldAV_len l
  refine enter (md := fun _ => 0) Tryd.func94 (fun hfit hgl => ?_)
  have hgl2 : ∀ i, belowL (H.length + 3) ((env n0 w0 gl).gl i) = true := by simpa using hgl
  have hfit2 : Fit (H.length + 3) H := fun o ho => by have := hfit o (List.mem_append_left _ ho); simpa using this
  refine gos ?_
  refine wseq_shift (Shift.cellVec 1 (H.length + 1) 0 (xs := [.sl 0 [] .full]) (by simp [getE]) (by simp) rfl rfl) ?_
  simp only [List.append_assoc, List.cons_append, List.nil_append, setE, List.set_cons_succ, List.set_cons_zero, List.length_append, List.length_cons, List.length_nil, Nat.zero_add, Nat.reduceAdd]
  repeat' (first | refine go ?_ | (refine br (fun hc => ?_) (fun hc => ?_) <;> try (exfalso; omega)) | fail)
  refine loop (fun i : Nat => (.ref H.length 0 :: .ref (H.length + 1) 0 :: .top :: .top :: .top :: .top :: .top :: .sl l.length (fldAV l) .ro :: .int .i64 l.length :: .int .i64 (i : Int) :: .top :: .top :: .top :: .top :: .top :: .top :: .top :: .top :: .top :: .top :: .top :: .top :: .top :: .top :: .top :: .top :: .top :: .top :: .top :: .top :: .top :: .top :: .top :: .top :: .top :: .top :: .top :: .top :: .top :: .top :: .top :: .top :: .top :: .top :: .top :: .top :: .top :: .top :: .top :: .top :: .top :: .top :: .top :: .top :: .top :: .top :: .top :: .top :: .top :: .top :: .top :: .top :: .top :: .top :: .top :: [])) (fun _ => H ++ [.cells [.sl l.length (fldAV l) .ro], .cells [.vsl (H.length + 3) 0], .cells [.int .i64 0], .vec 1 0 []]) (fun i => i ≤ l.length ∧ ∀ k, k < i → FldOk (l.getD k ([], []))) (fun i => l.length - i) 0 ⟨Nat.zero_le _, fun k h => absurd h (Nat.not_lt_zero _)⟩ ?_
  rintro i ⟨hi, hall⟩
  by_cases hlt : i < l.length
  · have hat := fldAV_at hlt
    have hbi := hb i hlt
    generalize hf : l.getD i ([], []) = f at *
    have hno : ¬ FldOk f → showR l = .inr 80 := fun h => by
      unfold showR
      rw [tf_false (fun hh => h (hf ▸ hh i hlt))]; rfl
    have hyes : FldOk f → ∀ k, k < i + 1 → FldOk (l.getD k ([], [])) := fun h k hk => by
      rcases Nat.lt_succ_iff_lt_or_eq.1 hk with h1 | h1
      · exact hall k h1
      · subst h1; rw [hf]; exact h
    by_cases hN : NameOk f.1
    · by_cases hT : Lib.trimS f.2 [32, 9] = f.2
      · have hh := And.intro hfl (And.intro hat (And.intro (tf_true hN) hT))
        repeat' (first | refine go ?_ | (refine br (fun hc => ?_) (fun hc => ?_) <;> try (exfalso; omega)) | fail)
        · rw [show ∀ a b c d e : AO, H ++ [a, b, c, d, e] = (H ++ [a, b, c, d]) ++ [e] from fun _ _ _ _ _ => by simp]
          exact again (i + 1) ⟨by omega, hyes ⟨hN, by omega, by omega, hT⟩⟩
        all_goals
          intro ts
          repeat' (first | refine go ?_ | (refine br (fun hc => ?_) (fun hc => ?_) <;> try (exfalso; omega)) | fail)
          rw [hno (by rintro ⟨h1, h2, h3, h4⟩; omega)]
          exact .now ⟨rfl, _, _, rfl⟩
      · have hh := And.intro hfl (And.intro hat (And.intro (tf_true hN) hT))
        repeat' (first | refine go ?_ | (refine br (fun hc => ?_) (fun hc => ?_) <;> try (exfalso; omega)) | fail)
        all_goals
          intro ts
          repeat' (first | refine go ?_ | (refine br (fun hc => ?_) (fun hc => ?_) <;> try (exfalso; omega)) | fail)
          rw [hno (by rintro ⟨h1, h2, h3, h4⟩; first | exact hT h4 | omega)]
          exact .now ⟨rfl, _, _, rfl⟩
    · have hh := And.intro hfl (And.intro hat (tf_false hN))
      repeat' (first | refine go ?_ | (refine br (fun hc => ?_) (fun hc => ?_) <;> try (exfalso; omega)) | fail)
      all_goals
        intro ts
        repeat' (first | refine go ?_ | (refine br (fun hc => ?_) (fun hc => ?_) <;> try (exfalso; omega)) | fail)
        rw [hno (fun h => hN h.1)]
        exact .now ⟨rfl, _, _, rfl⟩
  · obtain rfl : i = l.length := by omega
    have hR : showR l = if l.length ≤ 1000 ∧ (showL l).length ≤ 99998 then .inl (showL l ++ [13, 10]) else .inr 2 := by unfold showR; rw [tf_true hall]; rfl
    have hh := hfl
    repeat' (first | refine go ?_ | (refine br (fun hc => ?_) (fun hc => ?_) <;> try (exfalso; omega)) | fail)
    · refine loop (fun i : Nat => (.ref H.length 0 :: .ref (H.length + 1) 0 :: .top :: .top :: .top :: .top :: .top :: .top :: .top :: .top :: .top :: .top :: .top :: .top :: .top :: .top :: .top :: .top :: .top :: .top :: .top :: .top :: .top :: .top :: .top :: .top :: .top :: .top :: .top :: .top :: .top :: .top :: .top :: .top :: .top :: .top :: .top :: .top :: .top :: .top :: .top :: .top :: .top :: .sl l.length (fldAV l) .ro :: .int .i64 l.length :: .int .i64 (i : Int) :: .top :: .top :: .top :: .top :: .top :: .top :: .top :: .top :: .top :: .top :: .top :: .top :: .top :: .top :: .top :: .top :: .top :: .top :: .top :: [])) (fun i => H ++ [.cells [.sl l.length (fldAV l) .ro], .cells [.vsl (H.length + 3) (showL (l.take i)).length], .cells [.int .i64 0], .vec 1 (showL (l.take i)).length (bytesAV (showL (l.take i)))]) (fun i => i ≤ l.length ∧ (showL (l.take i)).length ≤ 99998) (fun i => l.length - i) 0 ⟨Nat.zero_le _, by simp [showL]⟩ ?_
      rintro i ⟨hi, hle⟩
      by_cases hlt : i < l.length
      · have hat := fldAV_at hlt
        have hbi := hb i hlt
        have hst := showL_take hlt
        have hmo := showL_mono l (i + 1)
        generalize hf : l.getD i ([], []) = f at *
        have hNl := (hall i hlt).1.2.2
        rw [hf] at hNl
        have hh := And.intro hfl hat
        have hsl : (showL (l.take (i + 1))).length = (showL (l.take i)).length + (f.1.length + (f.2.length + 4)) := by rw [hst]; simp [showF]
        have hsb : bytesAV (showL (l.take (i + 1))) = bytesAV (showL (l.take i)) ++ bytesAV (f.1 ++ 58 :: 32 :: (f.2 ++ [13, 10])) := by rw [hst, bytesAV_append]; simp [showF]
        repeat' (first | refine go ?_ | (refine br (fun hc => ?_) (fun hc => ?_) <;> try (exfalso; omega)) | fail)
        · rw [show ∀ a b c d e : AO, H ++ [a, b, c, d, e] = (H ++ [a, b, c, d]) ++ [e] from fun _ _ _ _ _ => by simp, ← hsl, ← hsb]
          exact again (i + 1) ⟨by omega, by omega⟩
        · rw [hR, if_neg (by omega)]
          exact .now ⟨rfl, _, _, rfl⟩
      · obtain rfl : i = l.length := by omega
        rw [List.take_length] at hle ⊢
        repeat' (first | refine go ?_ | (refine br (fun hc => ?_) (fun hc => ?_) <;> try (exfalso; omega)) | fail)
        rw [hR, if_pos ⟨by omega, by omega⟩]
        refine .now ⟨rfl, ?_⟩
        simp [bytesAV_append, bytesAV, byteAV]
    · rw [hR, if_neg (by omega)]
      exact .now ⟨rfl, _, _, rfl⟩

end Go.Ab.Tryd
