/- Walks: quotes, by the document. -/
import Derived.Test.YtpdjgbpmlckepaaDoorLMbox1
import Derived.Test.YtpdjgbpmlckepaaDoorFrE
set_option linter.unusedSimpArgs false
set_option linter.unusedVariables false
set_option maxHeartbeats 200000
set_option maxRecDepth 4000
namespace Go.Ab.Tryd
open Go Go.Ab Go.Proofs
attribute [local irreducible] W Wl Wop TrA WSeq WLoopS FPost DPost RPost WRound DK onEnd
variable {n0 : Nat} {w0 : World} {gl : Nat → List AV} {H : List AO}
attribute [local simp] belowL_bytesAV

/-- Rows of bytes, as they are seen. -/
def rowsAV (l : List (List UInt8)) : List AV := l.map fun x => .sl x.length (bytesAV x) .ro
theorem rowsAV_len (l : List (List UInt8)) : (rowsAV l).length = l.length := by simp [rowsAV]
theorem rowsAV_at {l : List (List UInt8)} {i : Nat} (h : i < l.length) : (rowsAV l).getD i .top = .sl (l.getD i []).length (bytesAV (l.getD i [])) .ro := by
  simp [rowsAV, List.getD_eq_getElem?_getD, h]
theorem belowL_rowsAV (n : Nat) (l : List (List UInt8)) : belowL n (rowsAV l) = true := by
  induction l with
  | nil => rfl
  | cons x l ih => simpa [rowsAV, belowL, AV.within] using ih
attribute [local simp] belowL_rowsAV
theorem bytesAV_cut (b : List UInt8) (i k : Nat) : List.drop i (List.take k (bytesAV b)) = bytesAV ((b.take k).drop i) := by simp [bytesAV]
theorem bytesAV_cut2 (b : List UInt8) (i : Nat) : List.drop i (bytesAV b) = bytesAV (b.drop i) := by simp [bytesAV]

instance from09_t (s : List UInt8) : Ctr (env n0 w0 gl) 68 [.sl s.length (bytesAV s) .ro] H (s.length ≤ 1000000000) (.tup [.int .i64 (mk s), .bool (tf (Bg s))]) H := .of fun hs => by
  refine enter (md := fun _ => 0) Tryd.func68 (fun hfit hgl => ?_)
  repeat' (first | refine go ?_ | (refine br (fun hc => ?_) (fun hc => ?_) <;> try (exfalso; omega)) | fail)
  refine loop0 (fun i : Nat => (.sl s.length (bytesAV s) .ro :: .top :: .int .i64 0 :: .bool false :: .int .i64 (i : Int) :: .top :: .top :: .top :: .top :: .top :: .top :: .top :: .top :: .top :: .top :: .top :: .top :: .top :: .top :: .top :: .top :: .top :: .top :: .top :: .top :: .top :: .top :: .top :: .top :: .top :: .top :: .top :: .top :: [])) (fun i => i ≤ s.length ∧ ∀ k, k < i → s.getD k 0 = 62) (fun i => s.length - i) 0 ⟨Nat.zero_le _, fun k h => absurd h (Nat.not_lt_zero _)⟩ ?_
  rintro i ⟨hi, hall⟩
  by_cases hlt : i < s.length
  · by_cases h62 : s.getD i 0 = 62
    · have hh : (s.getD i 0).toNat = 62 := by rw [h62]; rfl
      repeat' (first | refine go ?_ | (refine br (fun hc => ?_) (fun hc => ?_) <;> try (exfalso; omega)) | fail)
      refine again (i + 1) ⟨by omega, fun k hk => ?_⟩ (by omega)
      rcases Nat.lt_succ_iff_lt_or_eq.1 hk with h | h
      · exact hall k h
      · subst h; exact h62
    · have hm : mk s = i := mk_unique hall hi (fun _ => h62)
      have h62' : (s.getD i 0).toNat ≠ 62 := fun h => h62 (UInt8.toNat_inj.1 h)
      have e2 : tf (Bg s) = decide ((s.drop i).take 5 = fromB) := by rw [tf_decide]; unfold Bg; rw [hm]
      rw [hm, e2]
      by_cases h5 : i + 5 ≤ s.length
      · have hlt5 : (s.take (i + 5)).length = i + 5 := by rw [List.length_take]; omega
        have hh := And.intro hlt5 <| And.intro (bytesAV_cut s i (i + 5)) (And.intro (ite_same (i + 5 = s.length) Tok.ro) (show i + 5 - i = 5 by omega))
        repeat' (first | refine go ?_ | (refine br (fun hc => ?_) (fun hc => ?_) <;> try (exfalso; omega)) | fail)
        refine .now ⟨?_, rfl⟩
        rw [List.drop_take, show i + 5 - i = 5 by omega]; rfl
      · repeat' (first | refine go ?_ | (refine br (fun hc => ?_) (fun hc => ?_) <;> try (exfalso; omega)) | fail)
        refine .now ⟨?_, rfl⟩
        rw [decide_eq_false]
        intro h; have := congrArg List.length h
        simp [fromB] at this; omega
  · have hm : mk s = i := mk_unique hall hi (fun h => absurd h hlt)
    have e2 : tf (Bg s) = false := by
      rw [tf_false]
      unfold Bg; rw [hm, List.drop_eq_nil_of_le (by omega)]; simp [fromB]
    rw [hm, e2]
    repeat' (first | refine go ?_ | (refine br (fun hc => ?_) (fun hc => ?_) <;> try (exfalso; omega)) | fail)
    exact .now ⟨rfl, rfl⟩

instance each_t (b : List UInt8) : Ctr (env n0 w0 gl) 66 [.sl b.length (bytesAV b) .ro] H (b.length ≤ 1000000000) (.sl (lns b).length (rowsAV (lns b)) .ro) H := .of fun hb => by
  refine enter (md := fun _ => 0) Tryd.func66 (fun hfit hgl => ?_)
  refine gos ?_
  refine wseq_normal ?_
  refine gos ?_
  refine wseq_normal ?_
  refine gos ?_
  refine wseq_shift (Shift.vec 1 3 rfl) ?_
  simp only [List.set_cons_succ, List.set_cons_zero]
  repeat' (first | refine go ?_ | (refine br (fun hc => ?_) (fun hc => ?_) <;> try (exfalso; omega)) | fail)
  refine loop (fun i : List (List UInt8) × Nat × Nat => (.sl b.length (bytesAV b) .ro :: .top :: .sl 0 [] .full :: .vsl H.length i.1.length :: .int .i64 (i.2.1 : Int) :: .top :: .top :: .sl b.length (bytesAV b) .ro :: .int .i64 b.length :: .int .i64 (i.2.2 : Int) :: .top :: .top :: .top :: .top :: .top :: .top :: .top :: .top :: .top :: .top :: .top :: .top :: .top :: .top :: .top :: .top :: .top :: .top :: .top :: .top :: .top :: .top :: .top :: .top :: .top :: .top :: .top :: .top :: [])) (fun i => H ++ [.vec 1 i.1.length (rowsAV i.1)])
    (fun i => i.2.1 ≤ i.2.2 ∧ i.2.2 ≤ b.length ∧ i.1.length ≤ i.2.1 ∧ lns b = i.1 ++ lns (b.drop i.2.1) ∧ ∀ k, i.2.1 ≤ k → k < i.2.2 → b.getD k 0 ≠ 10) (fun i => b.length - i.2.2) ([], 0, 0) ⟨Nat.le_refl _, Nat.zero_le _, Nat.le_refl _, rfl, fun k h1 h2 => absurd h2 (Nat.not_lt_zero _)⟩ ?_
  rintro ⟨pre, a, i⟩ ⟨h1, h2, h3, h4, h5⟩
  simp only at h1 h2 h3 h4 h5 ⊢
  have hpl := rowsAV_len pre
  by_cases hlt : i < b.length
  · have hcl : (b.take (i + 1)).length = i + 1 := by rw [List.length_take]; omega
    by_cases h10 : b.getD i 0 = 10
    · have hN : (b.getD i 0).toNat = 10 := by rw [h10]; rfl
      have hst := lns_step h1 hlt h5 h10
      have hh := And.intro hN (And.intro hpl (And.intro hcl (And.intro (bytesAV_cut b a (i + 1)) (ite_same (i + 1 = b.length) Tok.ro))))
      repeat' (first | refine go ?_ | (refine br (fun hc => ?_) (fun hc => ?_) <;> try (exfalso; omega)) | fail)
      have e1 : pre.length + 1 = (pre ++ [(b.take (i + 1)).drop a]).length := by simp
      have e2 : rowsAV pre ++ [.sl (i + 1 - a) (bytesAV ((b.take (i + 1)).drop a)) .ro] = rowsAV (pre ++ [(b.take (i + 1)).drop a]) := by simp [rowsAV, hcl]
      rw [e1, e2]
      refine again (pre ++ [(b.take (i + 1)).drop a], i + 1, i + 1) ⟨Nat.le_refl _, by simp only; omega, by simp; omega, by rw [h4, hst]; simp, fun k h1 h2 => by simp only at h1 h2; omega⟩ (by simp only; omega)
    · have hN : (b.getD i 0).toNat ≠ 10 := fun h => h10 (UInt8.toNat_inj.1 h)
      have hh := hpl
      repeat' (first | refine go ?_ | (refine br (fun hc => ?_) (fun hc => ?_) <;> try (exfalso; omega)) | fail)
      refine again (pre, a, i + 1) ⟨by simp only; omega, by simp only; omega, h3, h4, fun k h1 h2 => ?_⟩ (by simp only; omega)
      rcases Nat.lt_succ_iff_lt_or_eq.1 h2 with h | h
      · exact h5 k h1 h
      · subst h; exact h10
  · obtain rfl : i = b.length := by omega
    by_cases ha : a < b.length
    · have hst := lns_rest ha h5
      have hdl : (b.drop a).length = b.length - a := List.length_drop
      have htk : List.take b.length (bytesAV b) = bytesAV b := List.take_of_length_le (Nat.le_of_eq (bytesAV_len b))
      have e1 : pre.length + 1 = (lns b).length := by rw [h4, hst]; simp
      have e2 : rowsAV pre ++ [.sl (b.length - a) (bytesAV (b.drop a)) .ro] = rowsAV (lns b) := by rw [h4, hst]; simp [rowsAV]
      have hh := And.intro hpl (And.intro (bytesAV_cut2 b a) htk)
      refine gos ?_
      refine wseq_normal ?_
      refine gos ?_
      refine wseq_normal ?_
      refine gos ?_
      refine wseq_normal ?_
      refine gos ?_
      rw [e1, e2]
      refine wseq_shift (Shift.know 3 (sz := 1) rfl (by rw [getE0]; rfl)) ?_
      simp only [List.set_cons_succ, List.set_cons_zero, setE0]
      repeat' (first | refine go ?_ | (refine br (fun hc => ?_) (fun hc => ?_) <;> try (exfalso; omega)) | fail)
      exact .junkd ⟨rfl, rfl⟩
    · have e1 : pre = lns b := by rw [h4, List.drop_eq_nil_of_le (by omega)]; simp [lns]
      refine gos ?_
      refine wseq_normal ?_
      refine gos ?_
      refine wseq_normal ?_
      refine gos ?_
      refine wseq_normal ?_
      refine gos ?_
      rw [e1]
      refine wseq_shift (Shift.know 3 (sz := 1) rfl (by rw [getE0]; rfl)) ?_
      simp only [List.set_cons_succ, List.set_cons_zero, setE0]
      repeat' (first | refine go ?_ | (refine br (fun hc => ?_) (fun hc => ?_) <;> try (exfalso; omega)) | fail)
      exact .junkd ⟨rfl, rfl⟩

instance quote09_t (b : List UInt8) : Ctr (env n0 w0 gl) 111 [.sl b.length (bytesAV b) .ro] H (b.length ≤ 1000000000) (.sl (quoteS b).length (bytesAV (quoteS b)) .ro) H := .of fun hb => by
  refine enter (md := fun _ => 0) Tryd.func111 (fun hfit hgl => ?_)
  refine gos ?_
  refine wseq_normal ?_
  refine gos ?_
  refine wseq_shift (Shift.vec 1 3 rfl) ?_
  simp only [List.set_cons_succ, List.set_cons_zero]
  have hrl := rowsAV_len (lns b)
  have hsum := quote_sum (lns b) (lns_ne b)
  rw [lns_join] at hsum
  have hcount : (lns b).length ≤ b.length := lns_count b
  repeat' (first | refine go ?_ | (refine br (fun hc => ?_) (fun hc => ?_) <;> try (exfalso; omega)) | fail)
  refine loop (fun i : Nat => (.sl b.length (bytesAV b) .ro :: .top :: .sl 0 [] .full :: .vsl H.length (((lns b).take i).flatMap quoteL).length :: .top :: .top :: .top :: .top :: .top :: .sl (lns b).length (rowsAV (lns b)) .ro :: .int .i64 (lns b).length :: .int .i64 (i : Int) :: .top :: .top :: .top :: .top :: .top :: .top :: .top :: .top :: .top :: .top :: .top :: .top :: .top :: .top :: .top :: .top :: .top :: [])) (fun i => H ++ [.vec 1 (((lns b).take i).flatMap quoteL).length (bytesAV (((lns b).take i).flatMap quoteL))]) (fun i => i ≤ (lns b).length) (fun i => (lns b).length - i) 0 (Nat.zero_le _) ?_
  intro i hi
  by_cases hlt : i < (lns b).length
  · have hat := rowsAV_at hlt
    have hsucc : ((lns b).take (i + 1)).flatMap quoteL = ((lns b).take i).flatMap quoteL ++ quoteL ((lns b).getD i []) := by
      rw [List.take_succ_eq_append_getElem hlt, List.flatMap_append]
      simp [List.getD_eq_getElem?_getD, hlt]
    obtain ⟨hb1, hb2⟩ := lns_at_len (b := b) hlt
    have hq := quote_take b i
    have hsl := congrArg List.length hsucc
    have hsb := congrArg bytesAV hsucc
    rw [bytesAV_append] at hsb
    rw [List.length_append] at hsl
    clear hsucc
    generalize (lns b).getD i [] = x at *
    by_cases hB : Bg x
    · have hql : quoteL x = 62 :: x := by unfold quoteL; rw [if_pos hB]
      rw [hql] at hsl hsb
      have hh := And.intro hrl (And.intro hat (tf_true hB))
      have hsl2 : (((lns b).take (i + 1)).flatMap quoteL).length = (((lns b).take i).flatMap quoteL).length + (1 + x.length) := by rw [hsl, List.length_cons]; omega
      have hsb2 : bytesAV (((lns b).take (i + 1)).flatMap quoteL) = bytesAV (((lns b).take i).flatMap quoteL) ++ (.int .u8 62 :: bytesAV x) := hsb
      repeat' (first | refine go ?_ | (refine br (fun hc => ?_) (fun hc => ?_) <;> try (exfalso; omega)) | fail)
      rw [← hsl2, ← hsb2]
      exact again (i + 1) (by omega)
    · have hql : quoteL x = x := by unfold quoteL; rw [if_neg hB]
      rw [hql] at hsl hsb
      have hh := And.intro hrl (And.intro hat (tf_false hB))
      repeat' (first | refine go ?_ | (refine br (fun hc => ?_) (fun hc => ?_) <;> try (exfalso; omega)) | fail)
      rw [← hsl, ← hsb]
      exact again (i + 1) (by omega)
  · obtain rfl : i = (lns b).length := by omega
    rw [List.take_length]
    rw [show (lns b).flatMap quoteL = quoteS b from rfl]
    refine gos ?_
    refine wseq_normal ?_
    refine gos ?_
    refine wseq_shift (Shift.know 3 (sz := 1) rfl (by rw [getE0]; rfl)) ?_
    simp only [List.set_cons_succ, List.set_cons_zero, setE0]
    repeat' (first | refine go ?_ | (refine br (fun hc => ?_) (fun hc => ?_) <;> try (exfalso; omega)) | fail)
    exact .junkd ⟨rfl, rfl⟩

instance unquote09_t (b : List UInt8) : Ctr (env n0 w0 gl) 69 [.sl b.length (bytesAV b) .ro] H (b.length ≤ 1000000000) (.sl (unquoteS b).length (bytesAV (unquoteS b)) .ro) H := .of fun hb => by
  refine enter (md := fun _ => 0) Tryd.func69 (fun hfit hgl => ?_)
  refine gos ?_
  refine wseq_normal ?_
  refine gos ?_
  refine wseq_shift (Shift.vec 1 3 rfl) ?_
  simp only [List.set_cons_succ, List.set_cons_zero]
  have hrl := rowsAV_len (lns b)
  have hsum := unquote_sum (lns b)
  rw [lns_join] at hsum
  have hcount : (lns b).length ≤ b.length := lns_count b
  repeat' (first | refine go ?_ | (refine br (fun hc => ?_) (fun hc => ?_) <;> try (exfalso; omega)) | fail)
  refine loop (fun i : Nat => (.sl b.length (bytesAV b) .ro :: .top :: .sl 0 [] .full :: .vsl H.length (((lns b).take i).flatMap unquoteL).length :: .top :: .top :: .top :: .top :: .top :: .sl (lns b).length (rowsAV (lns b)) .ro :: .int .i64 (lns b).length :: .int .i64 (i : Int) :: .top :: .top :: .top :: .top :: .top :: .top :: .top :: .top :: .top :: .top :: .top :: .top :: .top :: .top :: .top :: .top :: .top :: .top :: .top :: .top :: [])) (fun i => H ++ [.vec 1 (((lns b).take i).flatMap unquoteL).length (bytesAV (((lns b).take i).flatMap unquoteL))]) (fun i => i ≤ (lns b).length) (fun i => (lns b).length - i) 0 (Nat.zero_le _) ?_
  intro i hi
  by_cases hlt : i < (lns b).length
  · have hat := rowsAV_at hlt
    have hsucc : ((lns b).take (i + 1)).flatMap unquoteL = ((lns b).take i).flatMap unquoteL ++ unquoteL ((lns b).getD i []) := by
      rw [List.take_succ_eq_append_getElem hlt, List.flatMap_append]
      simp [List.getD_eq_getElem?_getD, hlt]
    obtain ⟨hb1, hb2⟩ := lns_at_len (b := b) hlt
    have hq := unquote_take b i
    have hsl := congrArg List.length hsucc
    have hsb := congrArg bytesAV hsucc
    rw [bytesAV_append] at hsb
    rw [List.length_append] at hsl
    clear hsucc
    generalize (lns b).getD i [] = x at *
    by_cases hB : Bg x
    · by_cases hm : 0 < mk x
      · have hql : unquoteL x = x.drop 1 := by unfold unquoteL; rw [if_pos ⟨hB, hm⟩]
        rw [hql] at hsl hsb
        have htk : List.take x.length (bytesAV x) = bytesAV x := List.take_of_length_le (Nat.le_of_eq (bytesAV_len x))
        have hxd : (x.drop 1).length = x.length - 1 := List.length_drop
        rw [hxd] at hsl
        have hh := And.intro hrl (And.intro hat (And.intro (tf_true hB) (And.intro (bytesAV_cut2 x 1) (And.intro htk hxd))))
        repeat' (first | refine go ?_ | (refine br (fun hc => ?_) (fun hc => ?_) <;> try (exfalso; omega)) | fail)
        rw [← hsl, ← hsb]
        exact again (i + 1) (by omega)
      · have hql : unquoteL x = x := by unfold unquoteL; rw [if_neg (fun h => hm h.2)]
        rw [hql] at hsl hsb
        have hh := And.intro hrl (And.intro hat (tf_true hB))
        repeat' (first | refine go ?_ | (refine br (fun hc => ?_) (fun hc => ?_) <;> try (exfalso; omega)) | fail)
        rw [← hsl, ← hsb]
        exact again (i + 1) (by omega)
    · have hql : unquoteL x = x := by unfold unquoteL; rw [if_neg (fun h => hB h.1)]
      rw [hql] at hsl hsb
      have hh := And.intro hrl (And.intro hat (tf_false hB))
      repeat' (first | refine go ?_ | (refine br (fun hc => ?_) (fun hc => ?_) <;> try (exfalso; omega)) | fail)
      rw [← hsl, ← hsb]
      exact again (i + 1) (by omega)
  · obtain rfl : i = (lns b).length := by omega
    rw [List.take_length]
    rw [show (lns b).flatMap unquoteL = unquoteS b from rfl]
    refine gos ?_
    refine wseq_normal ?_
    refine gos ?_
    refine wseq_shift (Shift.know 3 (sz := 1) rfl (by rw [getE0]; rfl)) ?_
    simp only [List.set_cons_succ, List.set_cons_zero, setE0]
    repeat' (first | refine go ?_ | (refine br (fun hc => ?_) (fun hc => ?_) <;> try (exfalso; omega)) | fail)
    exact .junkd ⟨rfl, rfl⟩

end Go.Ab.Tryd
